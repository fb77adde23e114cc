/- memo: where a memo lies. -/
import Derived.Test.YtemilbemdlpkaaaGreatDoorPaf
import Derived.Test.YtemilbemdlpkaaaGreatDoorPat
import Derived.Test.YtemilbemdlpkaaaGreatDoorPai
import Derived.Test.YtemilbemdlpkaaaGreatDoorPbj
import Derived.Test.YtemilbemdlpkaaaGreatDoorPbd
namespace Go.Proofs.YtemilbemdlpkaaaGreatDoor
open Go.RowKit Go.ChangeMaps Go.MapKept
set_option linter.unusedSimpArgs false

def idV (n : Nat) : Value := .int .u64 n
theorem keyEnc_idV : KeyEnc Tryz.prog 35 idV := by
  have E := keyEnc_int (P := Tryz.prog) Tryz.underlying35
  obtain ⟨d, h1, h2⟩ := E.same
  refine ⟨⟨d, h1, fun a b => ?_⟩, fun b a w => E.check b _ w, fun a => E.stays _⟩
  rcases h2 (a : Int) (b : Int) with ⟨h, e⟩ | ⟨h, e⟩
  · exact .inl ⟨h, by omega⟩
  · exact .inr ⟨h, by omega⟩
def idW (v : Value) (n : Nat) : Prop := v = .int .u64 n
/-- A map from ids to ids at block m. -/
structure KnAt (w : World) (m : Nat) (es : Array MapEntry) (clock : Nat) (l : List (Nat × Nat)) : Prop where
  map : w.heap[m]? = some (.map es clock)
  stamped : Stamped es clock
  rel : RelM idV idW es.toList l
  nodup : NodupA l
theorem KnAt.kept {w w' : World} {m : Nat} {es : Array MapEntry} {clock : Nat} {l : List (Nat × Nat)} (h : KnAt w m es clock l) {G : Nat → Prop} (hk : Kept G w w') (hG : ¬ G m) : KnAt w' m es clock l :=
  ⟨(hk.block m (Array.getElem?_eq_some_iff.1 h.map).1 hG).trans h.map, h.stamped, h.rel, h.nodup⟩
theorem KnAt.lt {w : World} {m : Nat} {es : Array MapEntry} {clock : Nat} {l : List (Nat × Nat)} (h : KnAt w m es clock l) : m < w.heap.size := (Array.getElem?_eq_some_iff.1 h.map).1
theorem KnAt.size {w : World} {m : Nat} {es : Array MapEntry} {clock : Nat} {l : List (Nat × Nat)} (h : KnAt w m es clock l) : es.size = l.length := by have := h.rel.length; simpa using this
theorem zero_id18 (w : World) : (zeroValue 35).run Tryz.prog w = .ok (.int .u64 0) w := by kernel_rfl
/-- An id is looked up. -/
theorem KnAt.look {w : World} {m : Nat} {es : Array MapEntry} {clock : Nat} {l : List (Nat × Nat)} (h : KnAt w m es clock l) (x : Nat) (ok : Bool) (w' : World) (hm : w'.heap[m]? = some (.map es clock)) :
    (Instr.lookup 88 (.map (some m)) (.int .u64 x) ok).run Tryz.prog w' = .ok (if ok then .tuple #[.int .u64 ((getA x l).getD 0 : Nat), .bool (getA x l).isSome] else .int .u64 ((getA x l).getD 0 : Nat)) w' := by
  obtain ⟨v, hrun, hv⟩ := run_lookup_rel (m := m) (clock := clock) keyEnc_idV Tryz.underlying88 zero_id18 h.rel x ok
  have hr := hrun w' hm
  unfold idV at hr
  rw [hr]
  rcases hv with ⟨h1, rfl⟩ | ⟨n, e, h1, h2, -⟩
  · rw [h1]; rfl
  · rw [h1]; unfold idW at h2; subst h2; rfl
/-- An id is put. -/
theorem KnAt.put {w : World} {m : Nat} {es : Array MapEntry} {clock : Nat} {l : List (Nat × Nat)} (h : KnAt w m es clock l) (x n : Nat) :
    ∃ es' clock', (∀ w' : World, w'.heap[m]? = some (.map es clock) → (Instr.mapUpdate 88 (.map (some m)) (.int .u64 x) (.int .u64 n)).run Tryz.prog w' = .ok () (setBlock w' m (.map es' clock'))) ∧
      ∀ w' : World, w'.heap[m]? = some (.map es clock) → KnAt (setBlock w' m (.map es' clock')) m es' clock' (putA x n l) := by
  obtain ⟨es', clock', hrun, hrel, hst, -⟩ := run_mapUpdate_rel (m := m) (R' := idW) keyEnc_idV Tryz.underlying88 h.rel h.stamped x (.int .u64 n) n rfl (fun _ _ _ _ h => h)
  refine ⟨es', clock', fun w' hm => hrun w' hm, fun w' hm => ⟨?_, hst, hrel, h.nodup.put x n⟩⟩
  have hmlt := (Array.getElem?_eq_some_iff.1 hm).1
  simp [ChangeMaps.setBlock, hmlt]
end Go.Proofs.YtemilbemdlpkaaaGreatDoor

/- memo: where a memo lies; what is found. -/
namespace Go.Proofs.YtemilbemdlpkaaaGreatDoor
open Go.RowKit Go.ChangeMaps Go.MapKept
set_option linter.unusedSimpArgs false

theorem rowKept18 {F : Nat → Prop} {n0 : Nat} {w w' : World} {v : Value} {T : TypeId} {z n : Nat} {l : List Value} (h : w.ownsRow n0 T z v n l) (hk : Kept F w w') (hF : ∀ g, v.ownBlock = some g → ¬ F g) : w'.ownsRow n0 T z v n l := by
  obtain ⟨h1, h2⟩ := h
  refine ⟨h1, ?_⟩
  rcases h2 with h2 | ⟨g, cap, cur, rfl, hb, hg, hr⟩
  · exact .inl h2
  · exact .inr ⟨g, cap, cur, rfl, hb, (hk.block g (Array.getElem?_eq_some_iff.1 hg).1 (hF g rfl)).trans hg, hr⟩
/-- A run that counts, and where its bytes lie. -/
structure PtM where
  n : Nat
  v : Value
  bs : List UInt8
def PtM.run (p : PtM) : RunP := ⟨p.n, p.bs⟩
def partsV (l : List PtM) : List Value := l.flatMap fun p => [.int .i64 (p.n : Int), p.v]
theorem partsV_length (l : List PtM) : (partsV l).length = l.length * 2 := by
  induction l with
  | nil => rfl
  | cons p l ih => simp only [partsV, List.flatMap_cons, List.length_append, List.length_cons, List.length_nil] at ih ⊢; omega
theorem partsV_get : ∀ (l : List PtM) (k : Nat) (h : k < l.length), (partsV l)[k * 2]? = some (.int .i64 (l[k].n : Int)) ∧ (partsV l)[k * 2 + 1]? = some l[k].v
  | p :: l, 0, _ => ⟨rfl, rfl⟩
  | p :: l, k + 1, h => by
    have e1 : (k + 1) * 2 = k * 2 + 1 + 1 := by omega
    rw [e1]
    exact partsV_get l k (by simpa using h)
/-- A memo's cells: its pairs, the runs that count. -/
structure MemI (w : World) (p : Nat) (jp dp : Value) (km : Nat) (kes : Array MapEntry) (kclk : Nat) (tv : Value) (ps : List PtM) (M : MP) : Prop where
  cell : w.heap[p]? = some (.cells #[dp, jp, .string M.file, .map (some km), tv, .int .i64 M.last, .bool M.dead] 92 (0, 0))
  known : KnAt w km kes kclk M.known
  row : w.ownsRow 0 109 2 tv ps.length (partsV ps)
  bytes : ∀ x ∈ ps, OwnB w x.v x.bs
  runs : M.parts = ps.map PtM.run
  small : ps.length ≤ 4 ∧ (∀ x ∈ ps, x.n ≤ 4294967296 ∧ x.bs.length ≤ 4194304) ∧ M.last ≤ 4294967296 ∧ M.file.size ≤ 21 ∧ M.known.length ≤ 65536 * 5
/-- Blocks of the runs' row and of their bytes. -/
def partF (tv : Value) (l : List PtM) (k : Nat) : Prop := tv.ownBlock = some k ∨ ∃ x ∈ l, x.v.ownBlock = some k
section
variable {w w' : World} {p : Nat} {jp dp : Value} {km : Nat} {kes : Array MapEntry} {kclk : Nat} {tv : Value} {ps : List PtM} {M : MP}
theorem MemI.kept (h : MemI w p jp dp km kes kclk tv ps M) {G : Nat → Prop} (hk : Kept G w w')
    (hp : ¬ G p) (hm : ¬ G km) (ht : ∀ k, partF tv ps k → ¬ G k) : MemI w' p jp dp km kes kclk tv ps M :=
  ⟨(hk.block p (Array.getElem?_eq_some_iff.1 h.cell).1 hp).trans h.cell, h.known.kept hk hm, rowKept18 h.row hk (fun g e => ht g (.inl e)), fun x hx => OwnB.kept (h.bytes x hx) (fun g e => hk.block g ((h.bytes x hx).lt g e) (ht g (.inr ⟨x, hx, e⟩))), h.runs, h.small⟩
theorem MemI.keptN (h : MemI w p jp dp km kes kclk tv ps M) (hk : Kept (fun _ => False) w w') : MemI w' p jp dp km kes kclk tv ps M :=
  h.kept hk (fun f => f) (fun f => f) (fun _ _ f => f)
theorem MemI.fields (h : MemI w p jp dp km kes kclk tv ps M) :
    w.cell? ⟨p, 0, none⟩ = some dp ∧ w.cell? ⟨p, 1, none⟩ = some jp ∧ w.cell? ⟨p, 2, none⟩ = some (.string M.file) ∧ w.cell? ⟨p, 3, none⟩ = some (.map (some km)) ∧ w.cell? ⟨p, 4, none⟩ = some tv ∧ w.cell? ⟨p, 5, none⟩ = some (.int .i64 M.last) ∧ w.cell? ⟨p, 6, none⟩ = some (.bool M.dead) ∧ ∀ i, w.frozen? ⟨p, i, none⟩ = false := by
  have h0 := h.cell
  refine ⟨?_, ?_, ?_, ?_, ?_, ?_, ?_, fun i => ?_⟩ <;> simp [World.cell?, World.frozen?, h0]
theorem MemI.tvForm (h : MemI w p jp dp km kes kclk tv ps M) : ∃ a c, tv = .slice a ps.length c ∧ ps.length ≤ c ∧ c ≤ maxLen := by
  rcases h.row.2 with ⟨h1, h0⟩ | ⟨g, cap, cur, h1, _, _, hn, hm, _⟩
  · exact ⟨none, 0, by rw [h1, h0], by omega, by simp [maxLen]⟩
  · exact ⟨_, cap, h1, hn, hm⟩
/-- Which blocks a memo's are. -/
theorem MemI.types (h : MemI w p jp dp km kes kclk tv ps M) : (∀ g, tv.ownBlock = some g → ∃ cur, w.heap[g]? = some (.cells cur 109 (0, 0))) ∧ (∀ x ∈ ps, ∀ g, x.v.ownBlock = some g → ∃ cur, w.heap[g]? = some (.cells cur 5 (0, 0))) :=
  ⟨fun _ e => ownsRow_block h.row e, fun x hx _ e => ownsRow_block (h.bytes x hx) e⟩

set_option maxRecDepth 100000 in
theorem standin_any (h : MemI w p jp dp km kes kclk tv ps M) (c : Nat) :
    Calls Tryz.prog 29 #[.pointer (some ⟨p, 0, none⟩), .int .u64 c] w fun e w' => e = .returned (.tuple #[.int .u64 ((getA c M.known).getD 0 : Nat), .bool (getA c M.known).isSome]) ∧ w' = w := by
  obtain ⟨-, -, -, c3, -⟩ := h.fields
  have hl := h.known.look c true w h.known.map
  simp only [if_true] at hl
  clear h
  go_enter Tryz.func29, Tryz.ntmps29
  go_wp2_with fail
  go_ret2
  exact ⟨rfl, rfl⟩
set_option maxRecDepth 100000 in
theorem mlen_any (h : MemI w p jp dp km kes kclk tv ps M) :
    Calls Tryz.prog 32 #[.pointer (some ⟨p, 0, none⟩)] w fun e w' => e = .returned (.int .i64 (M.known.length : Nat)) ∧ w' = w := by
  obtain ⟨-, -, -, c3, -⟩ := h.fields
  have hl := fun ty => len_map (P := Tryz.prog) Tryz.underlying88 ty w h.known.map
  rw [h.known.size] at hl
  clear h
  go_enter Tryz.func32, Tryz.ntmps32
  go_wp2_with fail
  go_ret
  exact ⟨rfl, rfl⟩
end
end Go.Proofs.YtemilbemdlpkaaaGreatDoor

/- memo: a memo over its journal and its disk; rows of runs. -/
namespace Go.Proofs.YtemilbemdlpkaaaGreatDoor
open Go.RowKit Go.ChangeMaps Go.MapKept
set_option linter.unusedSimpArgs false

/-- Where a memo lies. -/
structure MAd where
  p : Nat
  km : Nat
  j : Nat
  b : Nat
  m : Nat
  kes : Array MapEntry
  kclk : Nat
  es : Array MapEntry
  clock : Nat
  av : Value
  pv : Value
  tv : Value
  ps : List PtM
/-- The blocks that it writes. -/
def MAd.F (a : MAd) (k : Nat) : Prop := k = a.p ∨ k = a.km ∨ jourF a.j a.b a.m a.es a.av a.pv k
def MAd.P (a : MAd) (k : Nat) : Prop := partF a.tv a.ps k
structure MemR (w : World) (a : MAd) (D : DM) (J : JM) (M : MP) : Prop where
  jour : JAt w a.j a.b a.m a.es a.clock a.av a.pv D J
  mem : MemI w a.p (.pointer (some ⟨a.j, 0, none⟩)) (.pointer (some ⟨a.b, 0, none⟩)) a.km a.kes a.kclk a.tv a.ps M
  kmm : a.km ≠ a.m
  out : ∀ x ∈ a.ps, ∀ g, x.v.ownBlock = some g → ¬ jourF a.j a.b a.m a.es a.av a.pv g
section
variable {w w' : World} {a : MAd} {D D' : DM} {J : JM} {M : MP}
theorem MemR.lt (h : MemR w a D J M) : (∀ k, a.F k → k < w.heap.size) ∧ (∀ k, a.P k → k < w.heap.size) := by
  refine ⟨?_, ?_⟩
  · rintro k (rfl | rfl | hk)
    · exact (Array.getElem?_eq_some_iff.1 h.mem.cell).1
    · exact h.mem.known.lt
    · exact h.jour.lt k hk
  · rintro k (e | ⟨x, hx, e⟩)
    · obtain ⟨cur, hc⟩ := h.mem.types.1 k e; exact (Array.getElem?_eq_some_iff.1 hc).1
    · obtain ⟨cur, hc⟩ := h.mem.types.2 x hx k e; exact (Array.getElem?_eq_some_iff.1 hc).1
/-- What a journal's blocks are. -/
theorem JAt.types {j b m : Nat} {es : Array MapEntry} {clock : Nat} {av pv : Value} (h : JAt w j b m es clock av pv D J) {k : Nat} (hk : jourF j b m es av pv k) :
    (k = m ∧ ∃ es c, w.heap[k]? = some (.map es c)) ∨ ∃ cur t, w.heap[k]? = some (.cells cur t (0, 0)) ∧ (t = 153 ∨ t = 5 ∨ t = 189 ∨ t = 106) := by
  rcases hk with rfl | e | e | hd
  · exact .inr ⟨_, _, h.cell, .inl rfl⟩
  · obtain ⟨cur, hc⟩ := ownsRow_block h.all e
    exact .inr ⟨_, _, hc, .inr (.inl rfl)⟩
  · obtain ⟨cur, hc⟩ := ownsRow_block h.parts e
    exact .inr ⟨_, _, hc, .inr (.inr (.inl rfl))⟩
  · rcases hd with rfl | rfl | ⟨e, he, hg⟩
    · exact .inr ⟨_, _, h.disk.cell, .inr (.inr (.inr rfl))⟩
    · exact .inl ⟨rfl, _, _, h.disk.map⟩
    · obtain ⟨p, _, _, hO⟩ := h.disk.rel.mem e he
      obtain ⟨cur, hc⟩ := ownsRow_block hO hg
      exact .inr ⟨cur, _, hc, .inr (.inl rfl)⟩
/-- No block of a memo is another's. -/
theorem MemR.apart (h : MemR w a D J M) : ¬ jourF a.j a.b a.m a.es a.av a.pv a.p ∧ ¬ jourF a.j a.b a.m a.es a.av a.pv a.km ∧ (∀ g, a.P g → ¬ a.F g) ∧ a.p ≠ a.km := by
  have hp := h.mem.cell
  have hk := h.mem.known.map
  have hpk : a.p ≠ a.km := fun e => by rw [e, hk] at hp; cases hp
  refine ⟨fun hj => ?_, fun hj => ?_, ?_, hpk⟩
  · rcases h.jour.types hj with ⟨-, es, c, h1⟩ | ⟨cur, t, h1, h2⟩
    · rw [hp] at h1; cases h1
    · rw [hp] at h1
      simp only [Option.some.injEq, Obj.cells.injEq] at h1
      rcases h2 with h2 | h2 | h2 | h2 <;> rw [h2] at h1 <;> simp at h1
  · rcases h.jour.types hj with ⟨h0, -⟩ | ⟨cur, t, h1, h2⟩
    · exact h.kmm h0
    · rw [hk] at h1; cases h1
  · rintro g (e | ⟨x, hx, e⟩) hF
    · obtain ⟨cur, hc⟩ := h.mem.types.1 g e
      rcases hF with rfl | rfl | hj
      · rw [hp] at hc; simp at hc
      · rw [hk] at hc; cases hc
      · rcases h.jour.types hj with ⟨-, es, c, h1⟩ | ⟨cur, t, h1, h2⟩
        · rw [hc] at h1; cases h1
        · rw [hc] at h1
          simp only [Option.some.injEq, Obj.cells.injEq] at h1
          rcases h2 with h2 | h2 | h2 | h2 <;> rw [h2] at h1 <;> simp at h1
    · obtain ⟨cur, hc⟩ := h.mem.types.2 x hx g e
      rcases hF with rfl | rfl | hj
      · rw [hp] at hc; simp at hc
      · rw [hk] at hc; cases hc
      · exact h.out x hx g e hj
theorem MemR.kept (h : MemR w a D J M) {G : Nat → Prop} (hk : Kept G w w') (hG : ∀ k, a.F k ∨ a.P k → ¬ G k) : MemR w' a D J M :=
  ⟨h.jour.kept hk (fun k hj => hG k (.inl (.inr (.inr hj)))), h.mem.kept hk (hG _ (.inl (.inl rfl))) (hG _ (.inl (.inr (.inl rfl)))) (fun k hp => hG k (.inr hp)), h.kmm, h.out⟩
theorem MemR.keptN (h : MemR w a D J M) (hk : Kept (fun _ => False) w w') : MemR w' a D J M := h.kept hk (fun _ _ f => f)
theorem MemR.file {w : World} (h : MemR w a D J M) : MemD w a.p a.b M.file := ⟨h.mem.fields.1, h.mem.fields.2.2.1⟩
/-- Its journal and its disk, turned; the memo's own cells are as they were. -/
theorem MemR.turn (h : MemR w a D J M) {J' : JM} {es' : Array MapEntry} {clock' : Nat} {av' pv' : Value} (hj : JAt w' a.j a.b a.m es' clock' av' pv' D' J') (hf : ∀ k, jourF a.j a.b a.m es' av' pv' k → jourF a.j a.b a.m a.es a.av a.pv k ∨ w.heap.size ≤ k) (hk : Kept (jourF a.j a.b a.m a.es a.av a.pv) w w') :
    MemR w' { a with es := es', clock := clock', av := av', pv := pv' } D' J' M := by
  obtain ⟨a1, a2, a3, -⟩ := h.apart
  refine ⟨hj, h.mem.kept hk a1 a2 (fun k hp e => a3 k hp (.inr (.inr e))), h.kmm, fun x hx g e hF => ?_⟩
  rcases hf g hF with h1 | h1
  · exact h.out x hx g e h1
  · have := h.lt.2 g (.inr ⟨x, hx, e⟩)
    omega
end

/-! ### rows of runs -/
theorem Tryz.info109 : (Tryz.prog.info? 109).map (fun i => (i.zero, i.size, i.bytes)) = some (some (.agg #[.int .i64 0, .slice none 0 0]), 2, 32) := by kernel_rfl
theorem partsV_append (l m : List PtM) : partsV (l ++ m) = partsV l ++ partsV m := by unfold partsV; rw [List.flatMap_append]
theorem parts_app {w : World} {n0 : Nat} {v vo : Value} {l m : List PtM} (h : w.ownsRow n0 109 2 v l.length (partsV l)) (hk0 : n0 ≤ w.heap.size) (ho : w.ownsRow 0 109 2 vo m.length (partsV m)) (hm : ∀ x ∈ m, ∃ a n c, x.v = .slice a n c) (hl : l.length + m.length ≤ 1000000) :
    ∃ v' w', (Builtin.append_ #[90, 90] 90 #[v, vo]).run Tryz.prog w = .ok v' w' ∧ w'.ownsRow n0 109 2 v' (l.length + m.length) (partsV (l ++ m)) ∧ w.grownBy w' v.ownBlock ∧ (v'.ownBlock = v.ownBlock ∨ v'.ownBlock = some w.heap.size) := by
  obtain ⟨i0, hi, hz0, hz1, hz2⟩ := info_parts Tryz.info109
  rcases ho.2 with ⟨rfl, h0⟩ | ⟨g, cap, cur, rfl, hb, hg, hn, hmx, hs, ht⟩
  · have hm0 : m = [] := List.length_eq_zero_iff.1 h0
    subst hm0
    obtain ⟨va, vc, rfl, hv1⟩ : ∃ va vc, v = .slice va l.length vc ∧ l.length ≤ vc := by
      rcases h.2 with ⟨rfl, h0⟩ | ⟨g, cap, cur, rfl, _, _, hn, hm, _⟩
      · exact ⟨none, 0, by rw [h0], by omega⟩
      · exact ⟨_, cap, rfl, hn⟩
    exact ⟨_, w, run_append_none _ _ _ i0 Tryz.underlying90 hi va l.length vc hv1 none 0 w, by simpa using h, ⟨rfl, rfl, rfl, Nat.le_refl _, fun _ _ _ => rfl⟩, .inl rfl⟩
  · obtain ⟨v', w', hrun, ho2, hg2, -, hb2⟩ := run_append_own_at (P := Tryz.prog) w n0 90 90 109 i0 _ 2 32 Tryz.underlying90 hi hz0 hz1 hz2 rfl (by decide) _ _ _ h ⟨g, 0, none⟩ m.length cap (partsV m) (partsV_length m) (fun j u hu => by
        rw [addr_add, Nat.zero_add, cell_of_row w g j cur _ _ hg]
        rw [← ht, List.getElem?_take] at hu
        split at hu
        · simpa using hu
        · cases hu) (by
      intro u hu
      simp only [partsV, List.mem_flatMap] at hu
      obtain ⟨p, hp, hu⟩ := hu
      obtain ⟨a, n, c, e⟩ := hm p hp
      simp at hu; rcases hu with rfl | rfl
      · rfl
      · rw [e]; rfl) (by unfold maxLen; omega) (by omega) hk0
    refine ⟨v', w', hrun, ?_, hg2, hb2⟩
    rw [partsV_append]
    exact ho2
theorem parts_one (w : World) (n : Nat) (v : Value) : (w.alloc (.cells #[.int .i64 (n : Int), v] 109)).ownsRow w.heap.size 109 2 (.slice (some ⟨w.heap.size, 0, none⟩) 1 1) 1 (partsV [⟨n, v, []⟩]) :=
  ⟨rfl, .inr ⟨w.heap.size, 1, #[.int .i64 (n : Int), v], rfl, Nat.le_refl _, heap_alloc_new _ _, Nat.le_refl _, by simp [maxLen], rfl, rfl⟩⟩
theorem partsV_congr {l m : List PtM} (h : l.map (fun x => (x.n, x.v)) = m.map (fun x => (x.n, x.v))) : partsV l = partsV m := by
  induction l generalizing m with
  | nil => cases m with
    | nil => rfl
    | cons _ _ => simp at h
  | cons x l ih => cases m with
    | nil => simp at h
    | cons y m =>
      simp only [List.map_cons, List.cons.injEq, Prod.mk.injEq] at h
      simp only [partsV, List.flatMap_cons] at ih ⊢
      rw [ih h.2, h.1.1, h.1.2]
/-- A run of a row, in its block. -/
theorem parts_at {w : World} {n0 : Nat} {a : Option Addr} {n c : Nat} {l : List PtM} (h : w.ownsRow n0 109 2 (.slice a n c) l.length (partsV l)) {k : Nat} (hk : k < l.length) :
    ∃ g, a = some ⟨g, 0, none⟩ ∧ g < w.heap.size ∧ n0 ≤ g ∧ w.cell? ⟨g, k * 2, none⟩ = some (.int .i64 (l[k].n : Int)) ∧ w.cell? ⟨g, k * 2 + 1, none⟩ = some l[k].v := by
  rcases h.2 with ⟨e, h0⟩ | ⟨g, cap, cur, e, hb, hg, hn, hm, hs, ht⟩
  · omega
  · cases e
    obtain ⟨g1, g2⟩ := partsV_get l k hk
    have hlen := partsV_length l
    refine ⟨g, rfl, (Array.getElem?_eq_some_iff.1 hg).1, hb, ?_, ?_⟩
    · rw [cell_of_row w g _ cur _ _ hg]
      rw [← ht, List.getElem?_take, if_pos (by omega)] at g1
      simpa using g1
    · rw [cell_of_row w g _ cur _ _ hg]
      rw [← ht, List.getElem?_take, if_pos (by omega)] at g2
      simpa using g2
end Go.Proofs.YtemilbemdlpkaaaGreatDoor
