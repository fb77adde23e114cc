/- octet.PutText; journal: record, add, Append, Len, payload, Record. -/
import Derived.Lib.AppendStr
import Derived.Deep.RegionLaw
import Derived.Deep.CutRange
import Derived.Test.YtemilbemdlpkaaaGreatDoorPae
import Derived.Test.YtemilbemdlpkaaaGreatDoorPaf
namespace Go.Proofs.YtemilbemdlpkaaaGreatDoor
open Go.RowKit Go.ChangeMaps Go.MapKept

/-- A text's bytes, and its form. -/
def txB (s : ByteArray) : List UInt8 := s.data.toList
def textB (s : ByteArray) : List UInt8 := uintB s.size ++ txB s
theorem txB_strB (bs : List UInt8) : txB (strB bs) = bs := by simp [txB, strB]
theorem strB_size (bs : List UInt8) : (strB bs).size = bs.length := by simp [strB, ByteArray.size]
theorem txB_length (s : ByteArray) : (txB s).length = s.size := by unfold txB; rw [Array.length_toList]; rfl
theorem FreshB.behind {w w1 w2 : World} {v : Value} {bs : List UInt8} (h : FreshB w1 v bs w2) (hk : Kept (fun _ => False) w w1) : FreshB w v bs w2 := ⟨h.own, hk.more h.kept (fun _ f => f.elim), fun g hg => Nat.le_trans hk.size (h.new g hg)⟩
theorem strCells_eq (s : ByteArray) : Lib.strCells s = bytesV (txB s) := by simp [Lib.strCells, bytesV, txB]

theorem NewB.appStr {w0 w : World} {v : Value} {bs : List UInt8} (h : NewB w0 w v bs) (hk0 : w0.heap.size ≤ w.heap.size) (s : ByteArray) (hl : bs.length + s.size ≤ 140737488355328) :
    ∃ v' w', (Builtin.append_ #[25, 9] 25 #[v, .string s]).run Tryz.prog w = .ok v' w' ∧ NewB w0 w' v' (bs ++ txB s) ∧ Kept (fun k => w0.heap.size ≤ k) w w' := by
  obtain ⟨i0, hi, hz0, hz1, hz2⟩ := info_parts Tryz.info5
  obtain ⟨v', w', hrun, ho2, hg2, -⟩ := Lib.run_append_own_string (P := Tryz.prog) w w0.heap.size 25 9 25 5 i0 Tryz.underlying25 Tryz.underlying9 hi hz0 hz1 hz2 v _ _ h s (by unfold maxLen; omega) hl hk0
  refine ⟨v', w', hrun, ?_, Kept.grown (F := fun k => w0.heap.size ≤ k) (Kept.refl _ _) hg2 (fun k hk _ => (World.ownsRow.lt h k hk).1)⟩
  unfold NewB
  rw [bytesV_append, ← strCells_eq, List.length_append, txB_length]
  exact ho2

set_option maxRecDepth 100000 in
theorem putText_any (w : World) (v : Value) (bs : List UInt8) (s : ByteArray) (hs : s.size ≤ 100000000000000) (h : IsB w v bs) (hlen : bs.length ≤ 10000000000000) :
    Calls Tryz.prog 190 #[v, .string s] w fun e w' => ∃ v', e = .returned v' ∧ FreshB w v' (bs ++ textB s) w' := by
  have hul := uintB_len s.size 10 (by omega) (by omega)
  have hP := Lib.hid (putUint_any w v bs s.size (by omega) h (by omega))
  have hcv : IntKind.u64.wrap (s.size : Int) = (s.size : Int) := by rw [IntKind.wrap_u64]; omega
  go_enter Tryz.func190, Tryz.ntmps190
  go_wp2_with fail
  refine hP.out.mono ?_
  rintro e w1 ⟨v1, rfl, hf⟩
  obtain ⟨v', w', hrun, ho, hk⟩ := hf.row.appStr hf.kept.size s (by rw [List.length_append]; omega)
  have hk' : Kept (fun _ => False) w w' := hf.kept.more hk (fun i hi => hi)
  rw [List.append_assoc] at ho
  have HF := Lib.hid (ho.fresh hk')
  clear ho hk hk'
  go_wp2_with (at_builtin; refine wpList_append_run rfl (.tmp 9) (.tmp 10) #[25, 9] rfl _ _ _ _ rfl rfl hrun ?_)
  go_ret
  exact ⟨_, rfl, HF.out⟩

/-- A record. -/
def recB (p : List UInt8) : List UInt8 := textB (strB p) ++ wordB (hashB p)
theorem recB_eq (p : List UInt8) : recB p = uintB p.length ++ p ++ wordB (hashB p) := by unfold recB textB; rw [txB_strB, strB_size]
theorem recB_length (p : List UInt8) (h : p.length ≤ 1000000) : (recB p).length ≤ p.length + 11 := by
  have := uintB_len p.length 3 (by omega) (by omega)
  have hw : (wordB (hashB p)).length = 8 := by simp [wordB]
  rw [recB_eq, List.length_append, List.length_append, hw]
  omega
set_option maxRecDepth 100000 in
theorem record_any (w : World) (a : Option Addr) (c : Nat) (p : List UInt8) (h : IsB w (.slice a p.length c) p) (hlen : p.length ≤ 1000000) :
    Calls Tryz.prog 167 #[.slice a p.length c] w fun e w' => ∃ v, e = .returned v ∧ FreshB w v (recB p) w' := by
  have hcv := conv_any h
  have hT := Lib.hid (putText_any w (.slice none 0 0) [] (strB p) (by rw [strB_size]; omega) ⟨none, 0, rfl, Nat.le_refl _, by simp [maxLen], .inl rfl⟩ (by simp))
  go_enter Tryz.func167, Tryz.ntmps167
  go_wp2_with fail
  refine hT.out.mono ?_
  rintro e w1 ⟨v1, rfl, hf1⟩
  obtain ⟨a1, c1, rfl, -, -⟩ := hf1.own.form
  have hH := hash_any w1 a c p (h.keptF hf1.kept (fun _ _ f => f))
  clear hcv
  go_wp2_with fail
  refine hH.mono ?_
  rintro e w2 ⟨rfl, rfl⟩
  have hW := Lib.hid (putWord_any w1 _ _ (hashB p) hf1.own.isB (by
    have := uintB_len (strB p).size 10 (by rw [strB_size]; omega) (by omega)
    simp only [List.nil_append, textB, List.length_append, txB_length, strB_size] at *
    omega))
  go_wp2_with fail
  refine hW.out.mono ?_
  rintro e w3 ⟨v3, rfl, hf3⟩
  go_wp2
  go_ret
  have := hf3.behind hf1.kept
  rw [List.nil_append] at this
  exact ⟨_, rfl, this⟩
end Go.Proofs.YtemilbemdlpkaaaGreatDoor

/- journal: where a journal lies; add, Append, Len, payload, Record. -/
namespace Go.Proofs.YtemilbemdlpkaaaGreatDoor
open Go.RowKit Go.ChangeMaps Go.MapKept

theorem rowKept {b : Nat} {w w' : World} {t k : Nat} {v : Value} {n : Nat} {l : List Value} {F : Nat → Prop} (h : w.ownsRow b t k v n l) (hk : Kept F w w') (hF : ∀ g, b ≤ g → v.ownBlock = some g → ¬ F g) : w'.ownsRow b t k v n l := by
  refine ⟨h.1, ?_⟩
  rcases h.2 with h2 | ⟨g, cap, cur, rfl, h3, h4, h5⟩
  · exact .inl h2
  · exact .inr ⟨g, cap, cur, rfl, h3, (hk.block g (Array.getElem?_eq_some_iff.1 h4).1 (hF g h3 rfl)).trans h4, h5⟩
/-- A journal, as plain data. -/
structure JM where
  file : ByteArray
  recs : List (List UInt8)
  size : Nat
  cut : Bool
def JM.all (J : JM) : List UInt8 := J.recs.flatten
def offsV : Nat → List (List UInt8) → List Value
  | _, [] => []
  | k, r :: l => .int .i64 k :: .int .i64 (k + r.length : Nat) :: offsV (k + r.length) l
theorem offsV_length (k : Nat) (l : List (List UInt8)) : (offsV k l).length = l.length * 2 := by
  induction l generalizing k with
  | nil => rfl
  | cons r l ih => simp only [offsV, List.length_cons, ih]; omega
theorem offsV_snoc (k : Nat) (l : List (List UInt8)) (r : List UInt8) : offsV k (l ++ [r]) = offsV k l ++ [.int .i64 (k + l.flatten.length : Nat), .int .i64 (k + l.flatten.length + r.length : Nat)] := by
  induction l generalizing k with
  | nil => simp [offsV]
  | cons x l ih => simp only [List.cons_append, offsV, ih, List.flatten_cons, List.length_append, Nat.add_assoc]
theorem offsV_at (k : Nat) (l : List (List UInt8)) (i : Nat) (hi : i < l.length) : (offsV k l)[i * 2]? = some (.int .i64 (k + (l.take i).flatten.length : Nat)) ∧ (offsV k l)[i * 2 + 1]? = some (.int .i64 (k + (l.take i).flatten.length + l[i].length : Nat)) := by
  induction l generalizing k i with
  | nil => simp at hi
  | cons r l ih =>
    cases i with
    | zero => simp [offsV]
    | succ i =>
      obtain ⟨h1, h2⟩ := ih (k + r.length) i (by simpa using hi)
      rw [show (i + 1) * 2 = i * 2 + 2 from by omega]
      simp only [offsV, List.getElem?_cons_succ, List.take_succ_cons, List.flatten_cons, List.length_append, List.getElem_cons_succ]
      rw [h1, h2]
      simp only [Nat.add_assoc, and_self]
theorem slice_of_flatten (l : List (List UInt8)) (i : Nat) (hi : i < l.length) : (l.flatten.drop (l.take i).flatten.length).take l[i].length = l[i] := by
  have h1 : l.flatten = (l.take i).flatten ++ (l[i] ++ (l.drop (i + 1)).flatten) := by rw [← List.flatten_cons, ← List.drop_eq_getElem_cons hi, ← List.flatten_append, List.take_append_drop]
  rw [h1, List.drop_left, List.take_left]
theorem flatten_take_le (l : List (List UInt8)) (i : Nat) (hi : i < l.length) : (l.take i).flatten.length + l[i].length ≤ l.flatten.length := by
  have h1 : l.flatten = (l.take i).flatten ++ (l[i] ++ (l.drop (i + 1)).flatten) := by rw [← List.flatten_cons, ← List.drop_eq_getElem_cons hi, ← List.flatten_append, List.take_append_drop]
  rw [h1, List.length_append, List.length_append]
  omega

/-- A journal at block j, over a disk at b. -/
structure JAt (w : World) (j b m : Nat) (es : Array MapEntry) (clock : Nat) (av pv : Value) (D : DM) (J : JM) : Prop where
  disk : DiskAt w b m es clock D
  cell : w.heap[j]? = some (.cells #[.pointer (some ⟨b, 0, none⟩), .string J.file, av, pv, .int .i64 J.size, .bool J.cut] 153 (0, 0))
  all : OwnB w av J.all
  parts : w.ownsRow 0 189 2 pv J.recs.length (offsV 0 J.recs)
  sep : ∀ g, av.ownBlock = some g → ¬ diskF b m es g
  small : J.all.length ≤ 4194304 ∧ J.size ≤ 4194304 ∧ J.recs.length ≤ 4194304 ∧ J.file.size ≤ 32
/-- Its blocks. -/
def jourF (j b m : Nat) (es : Array MapEntry) (av pv : Value) (k : Nat) : Prop := k = j ∨ av.ownBlock = some k ∨ pv.ownBlock = some k ∨ diskF b m es k

theorem ownsRow_block {w : World} {n0 t n k : Nat} {v : Value} {l : List Value} (h : w.ownsRow n0 t k v n l) {g : Nat} (e : v.ownBlock = some g) : ∃ cur, w.heap[g]? = some (.cells cur t (0, 0)) := by
  rcases h.2 with ⟨rfl, -⟩ | ⟨g', cap, cur, rfl, -, hg, -⟩
  · cases e
  · cases e; exact ⟨cur, hg⟩
theorem DiskAt.blockT {w : World} {b m : Nat} {es : Array MapEntry} {clock : Nat} {D : DM} (h : DiskAt w b m es clock D) {k : Nat} (hk : diskF b m es k) : (∃ c, w.heap[k]? = some (.map es c)) ∨ ∃ cur, w.heap[k]? = some (.cells cur 106 (0, 0)) ∨ w.heap[k]? = some (.cells cur 5 (0, 0)) := by
  rcases hk with rfl | rfl | ⟨e, he, hg⟩
  · exact .inr ⟨_, .inl h.cell⟩
  · exact .inl ⟨_, h.map⟩
  · obtain ⟨p, _, _, hO⟩ := h.rel.mem e he
    obtain ⟨cur, hc⟩ := ownsRow_block hO hg
    exact .inr ⟨cur, .inr hc⟩

section
variable {w w' : World} {j b m : Nat} {es : Array MapEntry} {clock : Nat} {av pv : Value} {D : DM} {J : JM}
theorem JAt.lt (h : JAt w j b m es clock av pv D J) : ∀ k, jourF j b m es av pv k → k < w.heap.size := by
  rintro k (rfl | e | e | hk)
  · exact (Array.getElem?_eq_some_iff.1 h.cell).1
  · obtain ⟨cur, hc⟩ := ownsRow_block h.all e; exact (Array.getElem?_eq_some_iff.1 hc).1
  · obtain ⟨cur, hc⟩ := ownsRow_block h.parts e; exact (Array.getElem?_eq_some_iff.1 hc).1
  · exact h.disk.lt k hk
/-- No block of the journal is the disk's, and they are apart. -/
theorem JAt.apart (h : JAt w j b m es clock av pv D J) : (∀ g, av.ownBlock = some g → g ≠ j) ∧ (∀ g, pv.ownBlock = some g → g ≠ j ∧ av.ownBlock ≠ some g ∧ ¬ diskF b m es g) ∧ ¬ diskF b m es j := by
  refine ⟨fun g e e2 => ?_, fun g e => ⟨fun e2 => ?_, fun e2 => ?_, fun hd => ?_⟩, fun hd => ?_⟩
  · obtain ⟨cur, hc⟩ := ownsRow_block h.all e; rw [e2, h.cell] at hc; simp at hc
  · obtain ⟨cur, hc⟩ := ownsRow_block h.parts e; rw [e2, h.cell] at hc; simp at hc
  · obtain ⟨cur, hc⟩ := ownsRow_block h.parts e; obtain ⟨cur2, hc2⟩ := ownsRow_block h.all e2; rw [hc] at hc2; simp at hc2
  · obtain ⟨cur, hc⟩ := ownsRow_block h.parts e
    rcases h.disk.blockT hd with ⟨c, h2⟩ | ⟨cur2, h2 | h2⟩ <;> rw [hc] at h2 <;> simp at h2
  · rcases h.disk.blockT hd with ⟨c, h2⟩ | ⟨cur2, h2 | h2⟩ <;> rw [h.cell] at h2 <;> simp at h2
theorem JAt.kept (h : JAt w j b m es clock av pv D J) {G : Nat → Prop} (hk : Kept G w w') (hG : ∀ k, jourF j b m es av pv k → ¬ G k) : JAt w' j b m es clock av pv D J := by
  refine ⟨h.disk.kept hk (fun k hd => hG k (.inr (.inr (.inr hd)))), (hk.block j (Array.getElem?_eq_some_iff.1 h.cell).1 (hG j (.inl rfl))).trans h.cell, rowKept h.all hk (fun g _ e => hG g (.inr (.inl e))), rowKept h.parts hk (fun g _ e => hG g (.inr (.inr (.inl e)))), h.sep, h.small⟩
theorem JAt.keptN (h : JAt w j b m es clock av pv D J) (hk : Kept (fun _ => False) w w') : JAt w' j b m es clock av pv D J := h.kept hk (fun _ _ f => f)
theorem JAt.c (h : JAt w j b m es clock av pv D J) : w.cell? ⟨j, 0, none⟩ = some (.pointer (some ⟨b, 0, none⟩)) ∧ w.cell? ⟨j, 1, none⟩ = some (.string J.file) ∧ w.cell? ⟨j, 2, none⟩ = some av ∧ w.cell? ⟨j, 3, none⟩ = some pv ∧ w.cell? ⟨j, 4, none⟩ = some (.int .i64 J.size) ∧ w.cell? ⟨j, 5, none⟩ = some (.bool J.cut) ∧ ∀ i, w.frozen? ⟨j, i, none⟩ = false := by
  refine ⟨?_, ?_, ?_, ?_, ?_, ?_, fun i => ?_⟩ <;> simp [World.cell?, World.frozen?, h.cell]

theorem jlen_any (h : JAt w j b m es clock av pv D J) : Calls Tryz.prog 90 #[.pointer (some ⟨j, 0, none⟩)] w fun e w' => e = .returned (.int .i64 J.recs.length) ∧ w = w' := by
  have hc3 := h.c.2.2.2.1
  obtain ⟨pa, pc, rfl⟩ : ∃ pa pc, pv = .slice pa J.recs.length pc := by
    rcases h.parts.2 with ⟨rfl, h0⟩ | ⟨g, cap, cur, rfl, -⟩
    · exact ⟨none, 0, by rw [h0]⟩
    · exact ⟨_, _, rfl⟩
  clear h
  go_enter Tryz.func90, Tryz.ntmps90
  go_wp2
  go_ret
  exact ⟨rfl, rfl⟩
end
end Go.Proofs.YtemilbemdlpkaaaGreatDoor

/- journal: add, Append, payload, Record. -/
namespace Go.Proofs.YtemilbemdlpkaaaGreatDoor
open Go.RowKit Go.ChangeMaps Go.MapKept

theorem Tryz.info189 : (Tryz.prog.info? 189).map (fun i => (i.zero, i.size, i.bytes)) = some (some (.agg #[.int .i64 0, .int .i64 0]), 2, 16) := by kernel_rfl
def JM.add (J : JM) (p : List UInt8) (n : Nat) : JM := { J with recs := J.recs ++ [p], size := J.size + n }
theorem JM.add_all (J : JM) (p : List UInt8) (n : Nat) : (J.add p n).all = J.all ++ p := by simp [JM.add, JM.all]

section
variable {w : World} {j b m : Nat} {es : Array MapEntry} {clock : Nat} {av pv : Value} {D : DM} {J : JM}
/-- What a call leaves of a journal. -/
def JEnd (w : World) (j b m : Nat) (es : Array MapEntry) (av pv : Value) (D' : DM) (J' : JM) (w' : World) : Prop :=
  ∃ es' clock' av' pv', JAt w' j b m es' clock' av' pv' D' J' ∧ (∀ k, jourF j b m es' av' pv' k → jourF j b m es av pv k ∨ w.heap.size ≤ k) ∧ Kept (jourF j b m es av pv) w w'

/-- What add leaves: only the journal's own blocks are written. -/
def JEndA (w : World) (j b m : Nat) (es : Array MapEntry) (clock : Nat) (av pv : Value) (D' : DM) (J' : JM) (w' : World) : Prop :=
  ∃ av' pv', JAt w' j b m es clock av' pv' D' J' ∧ (∀ g, av'.ownBlock = some g → av.ownBlock = some g ∨ w.heap.size ≤ g) ∧ (∀ g, pv'.ownBlock = some g → pv.ownBlock = some g ∨ w.heap.size ≤ g) ∧
    Kept (fun k => k = j ∨ av.ownBlock = some k ∨ pv.ownBlock = some k) w w'
theorem JEndA.toEnd {D' : DM} {J' : JM} {w' : World} (h : JEndA w j b m es clock av pv D' J' w') : JEnd w j b m es av pv D' J' w' := by
  obtain ⟨av', pv', h1, h2, h3, h4⟩ := h
  refine ⟨es, clock, av', pv', h1, ?_, h4.mono (fun i _ e => ?_)⟩
  · rintro k (rfl | e | e | hd)
    · exact .inl (.inl rfl)
    · rcases h2 k e with e2 | e2
      · exact .inl (.inr (.inl e2))
      · exact .inr e2
    · rcases h3 k e with e2 | e2
      · exact .inl (.inr (.inr (.inl e2)))
      · exact .inr e2
    · exact .inl (.inr (.inr (.inr hd)))
  · rcases e with e | e | e
    · exact .inl e
    · exact .inr (.inl e)
    · exact .inr (.inr (.inl e))

set_option maxRecDepth 100000 in
set_option maxHeartbeats 1000000 in
theorem add_sharp (h : JAt w j b m es clock av pv D J) (pa : Option Addr) (pc : Nat) (p : List UInt8) (hp : IsB w (.slice pa p.length pc) p) (n : Nat) (h1 : J.all.length + p.length ≤ 4194304) (h2 : J.size + n ≤ 4194304) (h3 : J.recs.length + 1 ≤ 4194304) :
    Calls Tryz.prog 87 #[.pointer (some ⟨j, 0, none⟩), .slice pa p.length pc, .int .i64 n] w fun e w' => e = .returned (.tuple #[]) ∧ JEndA w j b m es clock av pv D (J.add p n) w' := by
  obtain ⟨sz, hsz⟩ : ∃ sz, J.size + n = sz := ⟨_, rfl⟩
  have hszM : sz ≤ 4194304 := by omega
  obtain ⟨hc0, hc1, hc2, hc3, hc4, hc5, hfz⟩ := h.c
  obtain ⟨ap1, ap2, ap3⟩ := h.apart
  have hjl := (Array.getElem?_eq_some_iff.1 h.cell).1
  obtain ⟨av', w1, hrun1, ho1, hg1, hb1, -⟩ := run_append_bytes w av (.slice pa p.length pc) J.all p h.all hp (by omega)
  have hk1 : Kept (fun k => av.ownBlock = some k) w w1 := Kept.grown (F := fun k => av.ownBlock = some k) (Kept.refl _ _) hg1 (fun k hk _ => hk)
  obtain ⟨aa, ac, rfl, -, -⟩ := h.all.form
  obtain ⟨ba, bc, rfl, -, -⟩ := ho1.form
  obtain ⟨nn, hnn⟩ : ∃ nn, (J.all ++ p).length = nn := ⟨_, rfl⟩
  have HNN := Lib.hid hnn
  rw [hnn] at hrun1 hb1
  have e1 : w1.heap[j]? = _ := (hk1.block j hjl (fun e => ap1 j e rfl)).trans h.cell
  obtain ⟨w2, hw2⟩ : ∃ w2, w1.setCell ⟨j, 2, none⟩ (.slice ba nn bc) = w2 := ⟨_, rfl⟩
  have e2 := heap_setCell_row (o := 2) e1 (.slice ba nn bc)
  rw [hw2] at e2
  have hk2 : Kept (· = j) w1 w2 := by rw [← hw2]; exact (Kept.refl (· = j) w1).setCell (p := ⟨j, 2, none⟩) (fun _ => rfl) _
  have hd1 : w1.cell? ⟨j, 2, none⟩ = some (.slice aa J.all.length ac) := by simp [World.cell?, e1]
  have hf1 : w1.frozen? ⟨j, 2, none⟩ = false := by simp [World.frozen?, e1]
  obtain ⟨pa2, pc2, rfl⟩ : ∃ pa pc, pv = .slice pa J.recs.length pc := by
    rcases h.parts.2 with ⟨rfl, h0⟩ | ⟨g, cap, cur, rfl, -⟩
    · exact ⟨none, 0, by rw [h0]⟩
    · exact ⟨_, _, rfl⟩
  obtain ⟨w3, hw3⟩ : ∃ w3, w2.drew.alloc (.cells #[.int .i64 J.all.length, .int .i64 nn] 189) = w3 := ⟨_, rfl⟩
  have hk3 : Kept (fun _ => False) w2 w3 := by rw [← hw3]; exact ((Kept.refl _ w2).drew).alloc _
  have hs3 : w2.heap.size < w3.heap.size := by rw [← hw3]; simp
  have hn0 : w3.cell? ⟨w2.heap.size, 0, none⟩ = some (.int .i64 J.all.length) := by rw [← hw3]; show (w2.drew.alloc _).cell? ⟨w2.drew.heap.size, 0, none⟩ = _; rw [World.cell?_alloc_new]; rfl
  have hn1 : w3.cell? ⟨w2.heap.size, 1, none⟩ = some (.int .i64 nn) := by rw [← hw3]; show (w2.drew.alloc _).cell? ⟨w2.drew.heap.size, 1, none⟩ = _; rw [World.cell?_alloc_new]; rfl
  have hjd : ∀ g, (Value.slice pa2 J.recs.length pc2).ownBlock = some g → g ≠ j ∧ (Value.slice aa J.all.length ac).ownBlock ≠ some g ∧ ¬ diskF b m es g := ap2
  have hp3 : w3.ownsRow 0 189 2 (.slice pa2 J.recs.length pc2) J.recs.length (offsV 0 J.recs) :=
    rowKept (rowKept (rowKept h.parts hk1 (fun g _ e e2 => (ap2 g e).2.1 e2)) hk2 (fun g _ e e2 => (ap2 g e).1 e2)) hk3 (fun _ _ _ f => f)
  obtain ⟨i0, hi, hz0, hz1, hz2⟩ := info_parts Tryz.info189
  obtain ⟨pv', w4, hrun4, ho4, hg4, -, hb4⟩ := run_append_own_at (P := Tryz.prog) w3 0 151 151 189 i0 _ 2 16 Tryz.underlying151 hi hz0 hz1 hz2 rfl (by decide) _ _ _ hp3 ⟨w2.heap.size, 0, none⟩ 1 1 [.int .i64 J.all.length, .int .i64 nn] rfl (by
    intro i x hx
    match i, hx with
    | 0, hx => cases hx; exact hn0
    | 1, hx => cases hx; exact hn1
    | i + 2, hx => simp at hx) (by intro x hx; simp at hx; rcases hx with rfl | rfl <;> rfl) (by unfold maxLen; omega) (by omega) (by omega)
  have hk4 : Kept (fun k => (Value.slice pa2 J.recs.length pc2).ownBlock = some k) w3 w4 := Kept.grown (F := fun k => (Value.slice pa2 J.recs.length pc2).ownBlock = some k) (Kept.refl _ _) hg4 (fun k hk _ => hk)
  obtain ⟨pb, pbc, rfl⟩ : ∃ pa pc, pv' = .slice pa (J.recs.length + 1) pc := by
    rcases ho4.2 with ⟨rfl, h0⟩ | ⟨g, cap, cur, rfl, -⟩
    · omega
    · exact ⟨_, _, rfl⟩
  have hj2 := (Array.getElem?_eq_some_iff.1 e2).1
  have e3 : w3.heap[j]? = _ := (hk3.block j hj2 (fun f => f)).trans e2
  have e4 : w4.heap[j]? = _ := (hk4.block j (Array.getElem?_eq_some_iff.1 e3).1 (fun e => (ap2 j e).1 rfl)).trans e3
  have e5 := heap_setCell_row (o := 3) e4 (.slice pb (J.recs.length + 1) pbc)
  have e6 := heap_setCell_row (o := 4) e5 (.int .i64 (sz : Int))
  have hd2 : w2.cell? ⟨j, 2, none⟩ = some (.slice ba nn bc) := by simp [World.cell?, e2]
  have hd23 : w2.cell? ⟨j, 3, none⟩ = some (.slice pa2 J.recs.length pc2) := by simp [World.cell?, e2]
  have hd3 : w3.cell? ⟨j, 2, none⟩ = some (.slice ba nn bc) := by simp [World.cell?, e3]
  have hd33 : w3.cell? ⟨j, 3, none⟩ = some (.slice pa2 J.recs.length pc2) := by simp [World.cell?, e3]
  have hd4 : w4.cell? ⟨j, 2, none⟩ = some (.slice ba nn bc) := by simp [World.cell?, e4]
  have hd43 : w4.cell? ⟨j, 3, none⟩ = some (.slice pa2 J.recs.length pc2) := by simp [World.cell?, e4]
  have hf43 : w4.frozen? ⟨j, 3, none⟩ = false := by simp [World.frozen?, e4]
  have hd44 : w4.cell? ⟨j, 4, none⟩ = some (.int .i64 J.size) := by simp [World.cell?, e4]
  have hf44 : w4.frozen? ⟨j, 4, none⟩ = false := by simp [World.frozen?, e4]
  have hsi : (J.size : Int) + (n : Int) = (sz : Int) := by omega
  have HB := Lib.hid (And.intro e6 (And.intro ho1 (And.intro ho4 (And.intro hk1 (And.intro hk2 (And.intro hk3 (And.intro hk4 (And.intro hb1 (And.intro hb4 (And.intro hg1 (And.intro ap1 (And.intro ap2 ap3))))))))))))
  have HS := Lib.hid (And.intro hw2 (And.intro hw3 hs3))
  have hkj := ((Kept.refl (· = j) w4).setCell (p := ⟨j, 3, none⟩) (fun _ => rfl) (.slice pb (J.recs.length + 1) pbc)).setCell (p := ⟨j, 4, none⟩) (fun _ => rfl) (.int .i64 (sz : Int))
  have HFIN : Hid (JEndA w j b m es clock (.slice aa J.all.length ac) (.slice pa2 J.recs.length pc2) D (J.add p n) ((w4.setCell ⟨j, 3, none⟩ (.slice pb (J.recs.length + 1) pbc)).setCell ⟨j, 4, none⟩ (.int .i64 (sz : Int)))) := Lib.hid (by
    have hs13 : w.heap.size ≤ w1.heap.size := hk1.size
    have hs23 : w1.heap.size ≤ w3.heap.size := Nat.le_trans hk2.size hk3.size
    have hkA : Kept (fun k => k = j ∨ (Value.slice aa J.all.length ac).ownBlock = some k ∨ (Value.slice pa2 J.recs.length pc2).ownBlock = some k) w ((w4.setCell ⟨j, 3, none⟩ (.slice pb (J.recs.length + 1) pbc)).setCell ⟨j, 4, none⟩ (.int .i64 (sz : Int))) :=
      ((((hk1.mono (fun i _ e => .inr (.inl e))).trans hk2 (fun i _ e => .inl e)).trans hk3 (fun _ _ f => f.elim)).trans hk4 (fun i _ e => .inr (.inr e))).trans hkj (fun i _ e => .inl e)
    have hA1 : ∀ g, (Value.slice ba nn bc).ownBlock = some g → (Value.slice aa J.all.length ac).ownBlock = some g ∨ w.heap.size ≤ g := fun k e => by
      rcases hb1 k e with e2 | ⟨e2, -⟩
      · exact .inl e2
      · exact .inr (by omega)
    have hA2 : ∀ g, (Value.slice pb (J.recs.length + 1) pbc).ownBlock = some g → (Value.slice pa2 J.recs.length pc2).ownBlock = some g ∨ w.heap.size ≤ g := fun k e => by
      rcases hb4 with e2 | e2
      · rw [e2] at e; exact .inl e
      · rw [e2] at e; cases e; exact .inr (by omega)
    refine ⟨_, _, ⟨h.disk.kept (((((hk1.mono (G := fun k => (Value.slice aa J.all.length ac).ownBlock = some k ∨ k = j ∨ (Value.slice pa2 J.recs.length pc2).ownBlock = some k) (fun i _ e => .inl e)).trans hk2 (fun i _ e => .inr (.inl e)))) |>.trans hk3 (fun _ _ f => f.elim)) |>.trans hk4 (fun i _ e => .inr (.inr e)) |>.trans hkj (fun i _ e => .inr (.inl e))) (fun k hd e => ?_), ?_, ?_, ?_, ?_, ?_⟩, hA1, hA2, hkA⟩
    · rcases e with e | e | e
      · exact h.sep k e hd
      · exact ap3 (e ▸ hd)
      · exact (ap2 k e).2.2 hd
    · rw [e6, ← hsz]
      rfl
    · have := rowKept (rowKept (rowKept (rowKept ho1 hk2 (fun g _ e e2 => ?_)) hk3 (fun _ _ _ f => f)) hk4 (fun g _ e e2 => ?_)) hkj (fun g _ e e2 => ?_)
      · unfold OwnB
        rw [JM.add_all]
        rw [hnn]
        rw [hnn] at this
        exact this
      · rcases hb1 g (by rw [hnn] at e; exact e) with e3 | ⟨e3, -⟩
        · exact ap1 g e3 e2
        · omega
      · rcases hb1 g (by rw [hnn] at e; exact e) with e3 | ⟨e3, -⟩
        · exact (ap2 g e2).2.1 e3
        · obtain ⟨cur, hc⟩ := ownsRow_block h.parts e2
          have := (Array.getElem?_eq_some_iff.1 hc).1
          omega
      · rcases hb1 g (by rw [hnn] at e; exact e) with e3 | ⟨e3, -⟩
        · exact ap1 g e3 e2
        · omega
    · have h4 := rowKept ho4 hkj (fun g _ e e2 => by
        rcases hb4 with e3 | e3
        · rw [e3] at e; exact (ap2 g e).1 e2
        · rw [e3] at e; cases e; omega)
      have e7 : offsV 0 (J.add p n).recs = offsV 0 J.recs ++ [.int .i64 J.all.length, .int .i64 nn] := by
        show offsV 0 (J.recs ++ [p]) = _
        rw [offsV_snoc, ← hnn, List.length_append]
        simp [JM.all]
      rw [e7]
      show World.ownsRow _ 0 _ 2 _ (J.recs ++ [p]).length _
      rw [List.length_append]
      exact h4
    · intro g e hd
      rcases hb1 g e with e3 | ⟨e3, -⟩
      · exact h.sep g e3 hd
      · have := h.disk.lt g hd; omega
    · refine ⟨by rw [JM.add_all, List.length_append]; omega, by show J.size + n ≤ _; omega, by show (J.recs ++ [p]).length ≤ _; rw [List.length_append]; simp; omega, h.small.2.2.2⟩)
  clear hsz hnn e1 e2 e3 e4 e5 e6 ho1 ho4 hk1 hk2 hk3 hk4 hb1 hb4 hg1 ap1 ap2 ap3 hjd hp3 hi hz0 hz1 hz2 hjl hj2 hg4 hs3 hn0 hn1 hc0 hc1 hc3 hc5 hc4 hfz
  go_enter Tryz.func87, Tryz.ntmps87
  go_wp2_with (at_builtin; refine wpList_append_run rfl (.tmp 16) (.tmp 17) #[25, 25] rfl _ _ _ _ rfl rfl hrun1 ?_)
  have hrun5 := hrun4
  rw [← HS.out.2.1] at hrun5
  have hK2 : w2.drew.cell? ⟨j, 2, none⟩ = some (.slice ba nn bc) ∧ w2.drew.cell? ⟨j, 3, none⟩ = some (.slice pa2 J.recs.length pc2) := ⟨hd2, hd23⟩
  have hK3 : (w2.drew.alloc (.cells #[.int .i64 J.all.length, .int .i64 nn] 189)).cell? ⟨j, 2, none⟩ = some (.slice ba nn bc) ∧ (w2.drew.alloc (.cells #[.int .i64 J.all.length, .int .i64 nn] 189)).cell? ⟨j, 3, none⟩ = some (.slice pa2 J.recs.length pc2) := by rw [HS.out.2.1]; exact ⟨hd3, hd33⟩
  go_cut [] from 21 to 36 (fun wx => wx = w4.setCell ⟨j, 3, none⟩ (.slice pb (J.recs.length + 1) pbc))
  case first =>
    go_region_law (refine step_append_run rfl (.tmp 25) (.tmp 33) #[151, 151] rfl _ _ _ _ rfl rfl (by first | exact hrun5 | exact hrun4) ?_)
    all_goals
      go_wp2_with fail
      go_meet
      case rel => exact rfl
  case rest =>
    obtain rfl := hcut
    go_wp2
    go_end0
    exact ⟨rfl, HFIN.out⟩
theorem add_any (h : JAt w j b m es clock av pv D J) (pa : Option Addr) (pc : Nat) (p : List UInt8) (hp : IsB w (.slice pa p.length pc) p) (n : Nat) (h1 : J.all.length + p.length ≤ 4194304) (h2 : J.size + n ≤ 4194304) (h3 : J.recs.length + 1 ≤ 4194304) :
    Calls Tryz.prog 87 #[.pointer (some ⟨j, 0, none⟩), .slice pa p.length pc, .int .i64 n] w fun e w' => e = .returned (.tuple #[]) ∧ JEnd w j b m es av pv D (J.add p n) w' :=
  (add_sharp h pa pc p hp n h1 h2 h3).mono (fun _ _ h => ⟨h.1, h.2.toEnd⟩)
end
end Go.Proofs.YtemilbemdlpkaaaGreatDoor
