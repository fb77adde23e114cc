/- refs.Open, whatever lies on the disk. -/
import Derived.Test.YtjnhkepgoghogaaGreatDoorRsC
import Derived.Test.YtjnhkepgoghogaaGreatDoorRefsN
namespace Go.Proofs.YtjnhkepgoghogaaGreatDoor
open Go.RowKit Go.ChangeMaps Go.MapKept
set_option linter.unusedSimpArgs false
attribute [local go_sem] Oper.semAt_some

theorem name_act {P : Program} {c : Code} {Q : Exit → Act → World → Prop} {a : Act} {w : World} (h : ∀ A0, A0 = a → c.wp P Q A0 w) : c.wp P Q a w := h a rfl

/-- Refs at block r: their names and ids. -/
structure RefsI (w : World) (r im : Nat) (ies : Array MapEntry) (iclk : Nat) (jp : Value) (l S : IdsL) : Prop where
  cell : w.heap[r]? = some (.cells #[.map (some im), jp] 65 (0, 0))
  ids : IdsAt w im ies iclk l
  perm : l.Perm S
/-- .. with their journal, over a disk. -/
structure RefsAt (w : World) (r im : Nat) (ies : Array MapEntry) (iclk j b m : Nat) (es : Array MapEntry) (clock : Nat) (av pv : Value) (l : IdsL) (D : DM) (J : JM) (S : IdsL) : Prop where
  refs : RefsI w r im ies iclk (.pointer (some ⟨j, 0, none⟩)) l S
  jour : JAt w j b m es clock av pv D J
  apart : im ≠ m
def refsB : ByteArray := ⟨#[114, 101, 102, 115]⟩
/-- The records' refs. -/
def replay (recs : List (List UInt8)) : Option IdsL := recs.foldlM recR []
/-- What refs.Open makes of a disk: an error's number, the disk, the journal, the refs. -/
def openRec (o : Int × DM × JM) : Option IdsL → Int × DM × JM × IdsL
  | none => (8, o.2.1, o.2.2, [])
  | some S => (0, o.2.1, o.2.2, S)
def openR (D : DM) : Int × DM × JM × IdsL := if (openJ D refsB).1 = 0 then openRec (openJ D refsB) (replay (openJ D refsB).2.2.recs) else ((openJ D refsB).1, (openJ D refsB).2.1, (openJ D refsB).2.2, [])
theorem replay_snoc (recs : List (List UInt8)) (p : List UInt8) : replay (recs ++ [p]) = (replay recs).bind (fun S => recR S p) := by
  unfold replay
  rw [List.foldlM_append]
  cases List.foldlM recR [] recs <;> simp
theorem replay_prefix {l l' : List (List UInt8)} (h : l <+: l') (hn : replay l = none) : replay l' = none := by
  obtain ⟨t, rfl⟩ := h
  unfold replay at *
  rw [List.foldlM_append, hn]
  rfl
theorem recEnd_nodup {S T : IdsL} {x : Option (RM × IdsL)} (hS : NodupA S) (h : recEnd S x = some T) : NodupA T := by
  unfold recEnd at h
  split at h
  · cases h
  · split at h
    · cases h; exact layL_nodup hS _
    · cases h
theorem replay_nodup {recs : List (List UInt8)} : ∀ {S T : IdsL}, NodupA S → List.foldlM recR S recs = some T → NodupA T := by
  induction recs with
  | nil => intro S T hS h; cases h; exact hS
  | cons p recs ih =>
    intro S T hS h
    rw [List.foldlM_cons] at h
    cases hr : recR S p with
    | none => rw [hr] at h; cases h
    | some S' => rw [hr] at h; exact ih (recEnd_nodup hS hr) h
theorem recGo_nodup {S : IdsL} : ∀ (n : Nat) (r : RM) (met : IdsL) {r' : RM} {met' : IdsL}, NodupA met → recGo S n r met = some (r', met') → NodupA met'
  | 0, r, met, r', met', h, e => by rw [recGo] at e; cases e; exact h
  | n + 1, r, met, r', met', h, e => by
    rw [recGo] at e
    by_cases h1 : (r.text 200).2.word.2.err ≠ 0 ∨ (getA (r.text 200).1 met).isSome = true ∨ mayOf (r.text 200).1 ≠ 0
    · rw [if_pos h1] at e; cases e
    rw [if_neg h1] at e
    by_cases h2 : (r.text 200).2.word.1 = 0 ∧ getA (r.text 200).1 S = none
    · rw [if_pos h2] at e; cases e
    rw [if_neg h2] at e
    refine recGo_nodup n _ _ ?_ e
    have hn : getA (r.text 200).1 met = none := by
      cases hg : getA (r.text 200).1 met with
      | none => rfl
      | some v => exact absurd (.inr (.inl (by rw [hg]; rfl))) h1
    rw [← putA_of_none hn]
    exact h.put _ _
theorem recR_perm {S T : IdsL} (hS : NodupA S) (hp : S.Perm T) (p : List UInt8) : (recR S p).isSome = (recR T p).isSome ∧ ∀ S', recR S p = some S' → ∃ T', recR T p = some T' ∧ S'.Perm T' := by
  have hg := get_of_perm hS hp
  unfold recR
  rw [recGo_perm hg]
  cases hr : recGo T (RM.mk p 0).uint.1 (RM.mk p 0).uint.2 [] with
  | none => exact ⟨rfl, fun S' h => by cases h⟩
  | some x =>
    obtain ⟨r, met⟩ := x
    have hm := recGo_nodup _ _ _ (by simp [NodupA]) hr
    have hpl := layL_perm2 hS hm hp
    unfold recEnd
    simp only
    rw [hpl.length_eq]
    by_cases h : r.stop = 0 ∧ met ≠ [] ∧ (layL T met).length ≤ 64
    · rw [if_pos h, if_pos h]
      exact ⟨rfl, fun S' e => by cases e; exact ⟨_, rfl, hpl⟩⟩
    · rw [if_neg h, if_neg h]
      exact ⟨rfl, fun S' e => by cases e⟩
theorem replay_isNodup {recs : List (List UInt8)} {S : IdsL} (h : replay recs = some S) : NodupA S := replay_nodup (by simp [NodupA]) h

theorem cells2_run {W : World} {B C : Nat} {x y : Value} {t u : Tmp} {tx ty : TypeId} {fn : Func} {tmps : Array Value} (hf : fn.results = #[.cell t tx, .cell u ty]) (ht : tmps.getD t undef = .pointer (some ⟨B, 0, none⟩)) (hu : tmps.getD u undef = .pointer (some ⟨C, 0, none⟩))
    (hx : (loadVar tx ⟨B, 0, none⟩).run Tryz.prog W = .ok x W) (hy : (loadVar ty ⟨C, 0, none⟩).run Tryz.prog W = .ok y W) : (results fn tmps).run Tryz.prog W = .ok (.tuple #[x, y]) W := by
  have ht2 : tmps[t]?.getD undef = .pointer (some ⟨B, 0, none⟩) := by simpa using ht
  have hu2 : tmps[u]?.getD undef = .pointer (some ⟨C, 0, none⟩) := by simpa using hu
  simp [results, hf, ht2, hu2, asAddr, Result.andThen, hx, hy]
/-- A row that reads as bytes, when book-keeping has grown. -/
theorem isB_grown {A B : World} {v : Value} {bs : List UInt8} {row : Option Nat} (h : IsB A v bs) (hg : A.grownBy B row) (hr : ∀ k, row = some k → ∃ o : Obj, A.heap[k]? = some o ∧ o.isCells = false) : IsB B v bs := by
  have hk : Kept (fun k => row = some k) A B := Kept.grown (F := fun k => row = some k) (Kept.refl _ _) hg (fun k hk _ => hk)
  refine h.keptS hk (fun hne g e hrow => ?_)
  obtain ⟨o, ho, hc⟩ := hr g hrow
  obtain ⟨a, c, rfl, -, -, h3⟩ := h
  rcases h3 with h3 | ⟨g', off, rfl, -, hcell⟩
  · exact hne h3
  · cases e
    obtain ⟨x, l, hx⟩ := List.exists_cons_of_ne_nil hne
    have h5 := hcell 0 (.int .u8 (x.toNat : Int)) (by rw [hx]; rfl)
    cases o with
    | cells => cases hc
    | _ => simp [World.cell?, ho] at h5
theorem DiskAfter.mark {w w1 w2 : World} {b m : Nat} {es es1 : Array MapEntry} {c1 : Nat} {D1 : DM} (h : DiskAfter w b m es D1 w1 es1 c1) {G : Nat → Prop} (hk : Kept G w1 w2) (h1 : ∀ k, diskF b m es1 k → ¬ G k) (h2 : ∀ k, k < w.heap.size → ¬ G k) : DiskAfter w b m es D1 w2 es1 c1 :=
  ⟨h.disk.kept hk h1, h.foot, h.kept.trans hk fun i hi g => absurd g (h2 i hi)⟩
/-- Two results that are set. -/
theorem set_two {w1 : World} {B : Nat} {x y x' y' : Value} {tx ty : TypeId} (hb0 : w1.heap[B]? = some (.cells #[x] tx (0, 0))) (hb1 : w1.heap[B + 1]? = some (.cells #[y] ty (0, 0))) :
    ∃ W, (w1.setCell ⟨B, 0, none⟩ x').setCell ⟨B + 1, 0, none⟩ y' = W ∧ Kept (fun k => k = B ∨ k = B + 1) w1 W ∧ W.cell? ⟨B, 0, none⟩ = some x' ∧ W.cell? ⟨B + 1, 0, none⟩ = some y' := by
  have h0 := (heap_setCell_ne (w := w1.setCell ⟨B, 0, none⟩ x') (b := B + 1) (o := 0) (k := B) (by omega) y').trans (heap_setCell_row hb0 x')
  have h1 := heap_setCell_row (o := 0) ((heap_setCell_ne (w := w1) (b := B) (o := 0) (k := B + 1) (by omega) x').trans hb1) y'
  refine ⟨_, rfl, ((Kept.refl _ w1).setCell (p := ⟨B, 0, none⟩) (fun _ => .inl rfl) _).setCell (p := ⟨B + 1, 0, none⟩) (fun _ => .inr rfl) _, ?_, ?_⟩
  · simp [World.cell?, h0]
  · simp [World.cell?, h1]

set_option maxRecDepth 100000 in
set_option maxHeartbeats 1000000 in
theorem open_any {w : World} {b m : Nat} {es : Array MapEntry} {clock : Nat} {D : DM} (hd : DiskAt w b m es clock D) (hw : D.writes < 2305843009213693952) :
    Calls Tryz.prog 7 #[.pointer (some ⟨b, 0, none⟩)] w fun e w' => ∃ es' clock', DiskAfter w b m es (openR D).2.1 w' es' clock' ∧ ((openR D).1 ≠ 0 → e = .returned (.tuple #[.pointer none, .int .i64 (openR D).1])) ∧
      ((openR D).1 = 0 → ∃ r im ies iclk j av pv l, e = .returned (.tuple #[.pointer (some ⟨r, 0, none⟩), .int .i64 0]) ∧ RefsAt w' r im ies iclk j b m es' clock' av pv l (openR D).2.1 (openR D).2.2.1 (openR D).2.2.2 ∧
        w.heap.size ≤ r ∧ w.heap.size ≤ im ∧ w.heap.size ≤ j ∧ (∀ g, av.ownBlock = some g → w.heap.size ≤ g) ∧ (∀ g, pv.ownBlock = some g → w.heap.size ≤ g)) := by
  obtain ⟨W0, hW0⟩ : ∃ W, (w.alloc (.cells #[.pointer none] 26)).alloc (.cells #[.int .i64 0] 27) = W := ⟨_, rfl⟩
  have hk0 : Kept (fun _ => False) w W0 := by rw [← hW0]; exact ((Kept.refl _ _).alloc _).alloc _
  have hb0 : W0.heap[w.heap.size]? = some (.cells #[.pointer none] 26 (0, 0)) := by rw [← hW0]; exact alloc_old (heap_alloc_new _ _)
  have hb1 : W0.heap[w.heap.size + 1]? = some (.cells #[.int .i64 0] 27 (0, 0)) := by
    have h := heap_alloc_new (w.alloc (.cells #[.pointer none] 26)) (.cells #[.int .i64 0] 27)
    rw [← hW0]
    rwa [show (w.alloc (.cells #[.pointer none] 26)).heap.size = w.heap.size + 1 by simp] at h
  have hs0 : W0.heap.size = w.heap.size + 2 := by rw [← hW0]; simp
  have HJO := Lib.hid (jopen_any (hd.kept hk0 (fun _ _ f => f)) refsB (by decide) hw)
  have hO : Hid (openR D = if (openJ D refsB).1 = 0 then openRec (openJ D refsB) (replay (openJ D refsB).2.2.recs) else ((openJ D refsB).1, (openJ D refsB).2.1, (openJ D refsB).2.2, [])) := Lib.hid rfl
  generalize openR D = O at hO ⊢
  obtain ⟨⟨e1, D1, J1⟩, hj1⟩ : ∃ o, openJ D refsB = o := ⟨_, rfl⟩
  rw [hj1] at HJO hO
  simp only at HJO hO
  unfold refsB at HJO
  have HK0 := Lib.hid hk0
  have HB0 := Lib.hid hb0
  have HB1 := Lib.hid hb1
  have HS0 := Lib.hid hs0
  have HD := Lib.hid hd
  clear hj1 hk0 hb0 hb1 hs0 hd
  have hmm := @run_makeMap Tryz.prog
  refine (callsIn_wide (n := 5)).1 ?_
  refine callsIn_of_wp_marks Tryz.func7 rfl trivial ?_ rfl
  refine (wpIn_wide (n := 5)).2 ?_
  simp only [Tryz.ntmps7, List.size_toArray, List.length_cons, List.length_nil, Nat.reduceAdd, Nat.reduceSub, Array.replicate_succ, Array.replicate_zero, List.push_toArray, List.append_toArray, List.nil_append, List.cons_append]
  go_wp2_with fail
  refine HJO.out.mono ?_
  rintro e w1 ⟨es1, clk1, hA1, hne, heq⟩
  have hc0 := (hA1.kept.block w.heap.size (by have := HS0.out; omega) (fun f => by have := HD.out.lt _ f; omega)).trans HB0.out
  have hc1 := (hA1.kept.block (w.heap.size + 1) (by have := HS0.out; omega) (fun f => by have := HD.out.lt _ f; omega)).trans HB1.out
  have HA1 := Lib.hid (DiskAfter.of_kept HK0.out hA1)
  have HS1 : Hid (w.heap.size + 2 ≤ w1.heap.size) := Lib.hid (by have := HS0.out; have := hA1.kept.size; omega)
  have HF1 : Hid (∀ k, diskF b m es1 k → k < w.heap.size ∨ w.heap.size + 2 ≤ k) := Lib.hid (fun k hk => by
    rcases hA1.foot k hk with h | h
    · exact .inl (HD.out.lt k h)
    · exact .inr (by have := HS0.out; omega))
  clear hA1
  by_cases h0 : e1 = 0
  · subst h0
    obtain ⟨j, av, pv, rfl, hjn, havn, hpvn, hJ⟩ := heq rfl
    have HC0 := Lib.hid hc0
    have HC1 := Lib.hid hc1
    have HJ := Lib.hid hJ
    have HNW : Hid (w.heap.size + 2 ≤ j ∧ (∀ g, av.ownBlock = some g → w.heap.size + 2 ≤ g) ∧ (∀ g, pv.ownBlock = some g → w.heap.size + 2 ≤ g)) := Lib.hid (by have := HS0.out; exact ⟨by omega, fun g e => by have := havn g e; omega, fun g e => by have := hpvn g e; omega⟩)
    clear hc0 hc1 hJ heq hne hjn havn hpvn
    go_wp2_with fail
    obtain ⟨W2, hW2⟩ : ∃ W, ((w1.alloc (.map #[] 0)).alloc (.cells #[.map (some w1.heap.size), .pointer (some ⟨j, 0, none⟩)] 65)).alloc (.cells #[.pointer (some ⟨w1.heap.size + 1, 0, none⟩)] 26) = W := ⟨_, rfl⟩
    rw [hW2]
    have hk2 : Kept (fun _ => False) w1 W2 := by rw [← hW2]; exact (((Kept.refl _ _).alloc _).alloc _).alloc _
    have hs2 : W2.heap.size = w1.heap.size + 3 := by rw [← hW2]; simp
    have hbi : W2.heap[w1.heap.size]? = some (.map #[] 0) := by rw [← hW2]; exact alloc_old (alloc_old (heap_alloc_new _ _))
    have hbr : W2.heap[w1.heap.size + 1]? = some (.cells #[.map (some w1.heap.size), .pointer (some ⟨j, 0, none⟩)] 65 (0, 0)) := by
      rw [← hW2]
      refine alloc_old ?_
      have h := heap_alloc_new (w1.alloc (.map #[] 0)) (.cells #[.map (some w1.heap.size), .pointer (some ⟨j, 0, none⟩)] 65)
      rwa [World.size_alloc] at h
    have hbv : W2.heap[w1.heap.size + 1 + 1]? = some (.cells #[.pointer (some ⟨w1.heap.size + 1, 0, none⟩)] 26 (0, 0)) := by
      rw [← hW2]
      have h := heap_alloc_new ((w1.alloc (.map #[] 0)).alloc (.cells #[.map (some w1.heap.size), .pointer (some ⟨j, 0, none⟩)] 65)) (.cells #[.pointer (some ⟨w1.heap.size + 1, 0, none⟩)] 26)
      rwa [World.size_alloc, World.size_alloc] at h
    clear hW2
    refine (jeach_any (some ⟨j, 0, none⟩) W2).mono ?_
    rintro e w3 ⟨rfl, hw3⟩
    have hk3 : Kept (fun _ => False) W2 w3 := by rw [hw3]; exact (Kept.refl _ _).alloc _
    have hs3 : w3.heap.size = w1.heap.size + 4 := by rw [hw3]; simp [hs2]
    have hbs : w3.heap[W2.heap.size]? = some (.cells #[.pointer (some ⟨j, 0, none⟩)] 60 (0, 0)) := by rw [hw3]; exact heap_alloc_new _ _
    have hk13 := hk2.more hk3 (fun _ f => f.elim)
    have HJ3 := Lib.hid (HJ.out.keptN hk13)
    have HC03 : Hid (w3.heap[w.heap.size]? = some (.cells #[.pointer none] 26 (0, 0))) := Lib.hid ((hk13.block _ (by have := HS1.out; omega) (fun f => f)).trans HC0.out)
    have HC13 : Hid (w3.heap[w.heap.size + 1]? = some (.cells #[.int .i64 0] 27 (0, 0))) := Lib.hid ((hk13.block _ (by have := HS1.out; omega) (fun f => f)).trans HC1.out)
    have HBI : Hid (w3.heap[w1.heap.size]? = some (.map #[] 0)) := Lib.hid ((hk3.block _ (by omega) (fun f => f)).trans hbi)
    have HBR : Hid (w3.heap[w1.heap.size + 1]? = some (.cells #[.map (some w1.heap.size), .pointer (some ⟨j, 0, none⟩)] 65 (0, 0))) := Lib.hid ((hk3.block _ (by omega) (fun f => f)).trans hbr)
    have HBV : Hid (w3.heap[w1.heap.size + 1 + 1]? = some (.cells #[.pointer (some ⟨w1.heap.size + 1, 0, none⟩)] 26 (0, 0))) := Lib.hid ((hk3.block _ (by omega) (fun f => f)).trans hbv)
    have HBS := Lib.hid hbs
    have HS3 := Lib.hid hs3
    have HS2 := Lib.hid hs2
    have HK13 := Lib.hid hk13
    have HA3 := Lib.hid (HA1.out.after hk13)
    clear hw3 hk2 hk3 hs2 hs3 hbi hbr hbv hbs hk13
    have hjl : ∀ k, jourF j b m es1 av pv k → k < w1.heap.size := fun k hk => HJ.out.lt k hk
    have HJL := Lib.hid hjl
    clear hjl
    have HSEQ := Lib.hid (jeach_seq 4 (by omega) W2.heap.size HJ3.out HBS.out)
    have hS0 : ∀ k, (k = W2.heap.size ∨ jourF j b m es1 av pv k) → k < w3.heap.size := fun k hk => by
      have h1 := HS3.out
      have h2 := HS2.out
      rcases hk with rfl | hk
      · omega
      · have := HJL.out k hk; omega
    have HSB := Lib.hid hS0
    clear hS0
    go_wp2_with fail
    refine name_act ?_
    intro A0 hA0
    refine (wpIn_wide (n := 5)).1 ?_
    refine wpIn_rangeV (by omega) (gf := 55) (lb := #[.pointer (some ⟨W2.heap.size, 0, none⟩)]) (by rw [hA0]; simp [Act.eval]) (enters_of Tryz.func55 (by kernel_rfl) rfl) HSEQ.out KeepS.trans (keepS_b HSB.out) (fun _ => rfl)
      (fun pre W => (∃ S ies iclk l, replay (pre.map (·.2.2)) = some S ∧ IdsAt W w1.heap.size ies iclk l ∧ l.Perm S) ∧ Kept (· = w1.heap.size) w3 W)
      (fun c pre W => c = .ret ∧ replay (pre.map (·.2.2)) = none ∧ W.cell? ⟨w.heap.size, 0, none⟩ = some (.pointer none) ∧ W.cell? ⟨w.heap.size + 1, 0, none⟩ = some (.int .i64 8) ∧ Kept (fun k => k = w1.heap.size ∨ k = w.heap.size ∨ k = w.heap.size + 1) w3 W)
      ?hI ?hIx ?h0 ?hV (fun x a' _ => a' = { tmps := ((A0.tmps.setIfInBounds 23 (.int .i64 x.1)).setIfInBounds 24 x.2.1).setIfInBounds 8 x.2.1, defers := [] }) (fun _ _ _ _ _ _ h _ _ => h) ?assign ?body ?done ?stop
    case hI =>
      rintro pre A B row ⟨⟨S, ies, iclk, l, h1, h2, h3⟩, hk⟩ hg hr
      have hne : ∀ k, k < w3.heap.size → some k ≠ row := fun k hk e => by have := (hr k e.symm).1; omega
      exact ⟨⟨S, ies, iclk, l, h1, ⟨(hg.block _ h2.lt (hne _ (by have := HS3.out; omega))).trans h2.map, h2.stamped, h2.rel, h2.nodup⟩, h3⟩, hk.grown hg (fun k e hk => absurd e.symm (hne k hk))⟩
    case hIx =>
      rintro c pre A B row ⟨h1, h2, c0, c1, hk⟩ hg hr
      have hne : ∀ k, k < w3.heap.size → some k ≠ row := fun k hk e => by have := (hr k e.symm).1; omega
      have hl := HS1.out
      have hl3 := HS3.out
      exact ⟨h1, h2, (World.cell?_of_block (w := A) (a := ⟨w.heap.size, 0, none⟩) (hg.block _ (World.block_lt_of_cell? A _ c0) (hne w.heap.size (by omega)))).trans c0, (World.cell?_of_block (w := A) (a := ⟨w.heap.size + 1, 0, none⟩) (hg.block _ (World.block_lt_of_cell? A _ c1) (hne (w.heap.size + 1) (by omega)))).trans c1, hk.grown hg (fun k e hk => absurd e.symm (hne k hk))⟩
    case h0 => exact ⟨⟨[], #[], 0, [], rfl, ⟨HBI.out, stamped_empty 0, trivial, by simp [NodupA]⟩, List.Perm.refl _⟩, Kept.refl _ _⟩
    case hV =>
      rintro x A B row ⟨hB, hx⟩ hg hr
      exact ⟨isB_grown hB hg (fun k e => (hr k e).2), hx⟩
    case assign =>
      rintro l' pre x W K hi hv hK
      have HK := Lib.hid hK
      have HI := Lib.hid hi
      have HV := Lib.hid hv
      clear hK hi hv
      subst hA0
      unfold recArgs
      gi_wp2
      exact HK.out _ W (KeepsFrom.refl _ _) ⟨Nat.le_refl _, fun _ _ => rfl⟩ HI.out HV.out rfl
    case body =>
      rintro l' pre x a' W hl' ⟨⟨S, ies, iclk, l, hS, hids, hp⟩, hk⟩ ⟨hvB, hvr⟩ rfl -
      have hlt := HS3.out
      have hl1 := HS1.out
      have hrW := (hk.block _ (by omega) (by omega)).trans HBR.out
      have hvW := (hk.block _ (by omega) (by omega)).trans HBV.out
      have h0W := (hk.block _ (by omega) (by omega)).trans HC03.out
      have h1W := (hk.block _ (by omega) (by omega)).trans HC13.out
      have cv : W.cell? ⟨w1.heap.size + 1 + 1, 0, none⟩ = some (.pointer (some ⟨w1.heap.size + 1, 0, none⟩)) := by simp [World.cell?, hvW]
      have hxl : x.2.2.length ≤ 100000000 := by
        obtain ⟨hi, he⟩ := List.getElem?_eq_some_iff.1 hvr
        have h2 := flatten_take_le J1.recs x.1 hi
        have h3 := HJ3.out.small.1
        rw [← he]
        unfold JM.all at h3
        omega
      have HREC := Lib.hid (record_refs hrW hids x.2.1 x.2.2 hvB hxl)
      obtain ⟨hRP1, hRP2⟩ := recR_perm hids.nodup hp x.2.2
      have c0 : W.cell? ⟨w.heap.size, 0, none⟩ = some (.pointer none) := by simp [World.cell?, h0W]
      have HH0 := Lib.hid h0W
      have HH1 := Lib.hid h1W
      have HK := Lib.hid hk
      have HRP := Lib.hid hRP1
      have HRP2 := Lib.hid hRP2
      have HSS : Hid (replay ((pre ++ [x]).map (·.2.2)) = recR S x.2.2) := Lib.hid (by rw [List.map_append]; show replay (_ ++ [x.2.2]) = _; rw [replay_snoc, hS]; rfl)
      have hlt3 := HS3.out
      clear hrW h0W h1W hvW hids hvB hvr hxl hRP1 hRP2 hp hk c0
      subst hA0
      simp only [List.setIfInBounds_toArray, List.set_cons_zero, List.set_cons_succ]
      cases hrl : recR l x.2.2 with
      | some T =>
        rw [hrl] at HREC HRP HRP2
        simp only [Option.isSome_some] at HREC HRP
        gi_wp2_with fail
        refine ⟨trivial, (callsIn_wide.2 HREC.out).mono ?_⟩
        rintro e w4 ⟨rfl, hk4, hT⟩
        obtain ⟨ies4, iclk4, l4, hI4, hp4⟩ := hT T rfl
        have HI4 := Lib.hid hI4
        have HP4 := Lib.hid hp4
        have HK4 := Lib.hid hk4
        clear hT hI4 hp4 hk4
        gi_wp2
        have hk4 := HK4.out
        obtain ⟨T', hT1, hT2⟩ := HRP2.out T rfl
        refine ⟨⟨hk4.size, fun k o hB ho _ => (hk4.block k (Array.getElem?_eq_some_iff.1 ho).1 (by omega)).trans ho⟩, KeepS.of_kept hk4 (fun k hk => Nat.lt_of_lt_of_le (HSB.out k hk) HK.out.size) (fun k hk e => ?_), ⟨T', _, _, _, by rw [HSS.out, hT1], HI4.out, HP4.out.trans hT2⟩, HK.out.trans hk4 (fun _ _ e => e)⟩
        rcases hk with h | h
        · have := HS2.out; omega
        · have := HJL.out k h; omega
      | none =>
        rw [hrl] at HREC HRP HRP2
        simp only [Option.isSome_none] at HREC HRP
        gi_wp2_with fail
        refine ⟨trivial, (callsIn_wide.2 HREC.out).mono ?_⟩
        rintro e w4 ⟨rfl, hk4, -⟩
        have HK4 := Lib.hid hk4
        have c0 : w4.heap[w.heap.size]? = some (.cells #[.pointer none] 26 (0, 0)) := (hk4.block _ (Array.getElem?_eq_some_iff.1 HH0.out).1 (by omega)).trans HH0.out
        have c1 : w4.heap[w.heap.size + 1]? = some (.cells #[.int .i64 0] 27 (0, 0)) := (hk4.block _ (Array.getElem?_eq_some_iff.1 HH1.out).1 (by omega)).trans HH1.out
        obtain ⟨W5, hW5, hkW5, z0, z1⟩ := set_two (x' := .pointer none) (y' := .int .i64 8) c0 c1
        have y0 : w4.cell? ⟨w.heap.size, 0, none⟩ = some (.pointer none) := by simp [World.cell?, c0]
        have y1 : w4.cell? ⟨w.heap.size + 1, 0, none⟩ = some (.int .i64 0) := by simp [World.cell?, c1]
        have y2 : w4.frozen? ⟨w.heap.size, 0, none⟩ = false := by simp [World.frozen?, c0]
        have y3 : w4.frozen? ⟨w.heap.size + 1, 0, none⟩ = false := by simp [World.frozen?, c1]
        have HW5 := Lib.hid hW5
        clear c0 c1 hk4 hW5
        gi_wp2
        rw [HW5.out]
        have hn : recR S x.2.2 = none := by
          have h := HRP.out
          cases hq : recR S x.2.2 with
          | none => rfl
          | some _ => rw [hq] at h; cases h
        have hk5 : Kept (fun k => k = w1.heap.size ∨ k = w.heap.size ∨ k = w.heap.size + 1) W W5 := (HK4.out.mono (fun _ _ e => .inl e)).trans hkW5 (fun i _ e => .inr e)
        exact ⟨⟨hk5.size, fun k o hB ho _ => (hk5.block k (Array.getElem?_eq_some_iff.1 ho).1 (by omega)).trans ho⟩, rfl, by rw [HSS.out, hn], z0, z1, (HK.out.mono (fun _ _ e => .inl e)).trans hk5 (fun _ _ e => e)⟩
    case done =>
      rintro D xs W hD hS ⟨⟨S, ies, iclk, l, hS2, hids, hp⟩, hk⟩ hK
      rw [hS] at hS2
      have hlt := HS3.out
      have hl1 := HS1.out
      have hvW := (hk.block _ (by omega) (by omega)).trans HBV.out
      have cv : W.cell? ⟨w1.heap.size + 1 + 1, 0, none⟩ = some (.pointer (some ⟨w1.heap.size + 1, 0, none⟩)) := by simp [World.cell?, hvW]
      have h0W := (hk.block _ (by omega) (by omega)).trans HC03.out
      have h1W := (hk.block _ (by omega) (by omega)).trans HC13.out
      have y0 : W.cell? ⟨w.heap.size, 0, none⟩ = some (.pointer none) := by simp [World.cell?, h0W]
      have y1 : W.cell? ⟨w.heap.size + 1, 0, none⟩ = some (.int .i64 0) := by simp [World.cell?, h1W]
      have y2 : W.frozen? ⟨w.heap.size, 0, none⟩ = false := by simp [World.frozen?, h0W]
      have y3 : W.frozen? ⟨w.heap.size + 1, 0, none⟩ = false := by simp [World.frozen?, h1W]
      obtain ⟨W5, hW5, hkW5, z0, z1⟩ := set_two (x' := .pointer (some ⟨w1.heap.size + 1, 0, none⟩)) (y' := .int .i64 0) h0W h1W
      have HW5 := Lib.hid hW5
      have HF := Lib.hid (And.intro hS2 (And.intro hids (And.intro hp (And.intro hk hK))))
      have HD2 := Lib.hid hD
      clear hW5 h0W h1W hvW hS2 hids hp hk hK hS hD
      subst hA0
      go_wp2_with fail
      rw [HW5.out]
      clear cv y0 y1 y2 y3
      obtain ⟨hS2, hids, hp, hk, hK⟩ := HF.out
      have hD := HD2.out
      have hK5 : W5.heap[D]? = some (.deferred (some [])) := (hkW5.block D (Array.getElem?_eq_some_iff.1 hK).1 (by omega)).trans hK
      refine ⟨by simp, .inl ⟨_, _, rfl, run_takeDeferred hK5, ?_⟩⟩
      have hg6 := grownBy_putObj' W5 D (.deferred none)
      have hkD : Kept (· = D) W5 (W5.putObj D (.deferred none)) := (Kept.refl _ _).grown hg6 (fun k e _ => by cases e; rfl)
      have z0' : (W5.putObj D (.deferred none)).cell? ⟨w.heap.size, 0, none⟩ = some (.pointer (some ⟨w1.heap.size + 1, 0, none⟩)) := hkD.cell z0 (by show ¬ w.heap.size = D; omega)
      have z1' : (W5.putObj D (.deferred none)).cell? ⟨w.heap.size + 1, 0, none⟩ = some (.int .i64 0) := hkD.cell z1 (by show ¬ w.heap.size + 1 = D; omega)
      have hkf : Kept (fun k => k = w1.heap.size ∨ (k = w.heap.size ∨ k = w.heap.size + 1) ∨ k = D) w3 (W5.putObj D (.deferred none)) := ((hk.mono (fun _ _ e => .inl e)).trans hkW5 (fun _ _ e => .inr (.inl e))).trans hkD (fun _ _ e => .inr (.inr e))
      have hids6 : IdsAt (W5.putObj D (.deferred none)) w1.heap.size ies iclk l := (hids.kept hkW5 (by omega)).kept hkD (by omega)
      generalize W5.putObj D (.deferred none) = W6 at *
      refine ⟨_, cells2_run (x := .pointer (some ⟨w1.heap.size + 1, 0, none⟩)) (y := .int .i64 0) rfl rfl rfl (by go_simp) (by go_simp), ?_⟩
      have hO2 : O = (0, D1, J1, S) := by rw [hO.out, hS2]; rfl
      rw [hO2]
      have hjf : ∀ k, jourF j b m es1 av pv k → (k < w.heap.size ∨ w.heap.size + 2 ≤ k) ∧ k < w1.heap.size := fun k hk => by
        refine ⟨?_, HJL.out k hk⟩
        rcases hk with rfl | e | e | e
        · exact .inr HNW.out.1
        · exact .inr (HNW.out.2.1 k e)
        · exact .inr (HNW.out.2.2 k e)
        · exact HF1.out k e
      have hA6 := HA3.out.mark hkf (fun k hk e => by have := HF1.out k hk; have := HA1.out.disk.lt k hk; omega) (fun k hk e => by omega)
      refine ⟨es1, clk1, hA6, fun h => absurd rfl h, fun _ => ⟨_, _, _, _, j, av, pv, l, rfl, ⟨⟨(hkf.block _ (by omega) (by omega)).trans HBR.out, hids6, hp⟩, HJ3.out.kept hkf (fun k hk e => by have := hjf k hk; omega), ?_⟩, by omega, by omega, by have := HNW.out.1; omega, fun g e => by have := HNW.out.2.1 g e; omega, fun g e => by have := HNW.out.2.2 g e; omega⟩⟩
      have := HJL.out m (.inr (.inr (.inr (.inr (.inl rfl)))))
      show w1.heap.size ≠ m
      omega
    case stop =>
      rintro D cc pre W hD hS ⟨rfl, hr, z0, z1, hk⟩ hK
      have hlt := HS3.out
      have hl1 := HS1.out
      have hn := replay_prefix hS hr
      have hO2 : O = (8, D1, J1, []) := by rw [hO.out, hn]; rfl
      have HF := Lib.hid (And.intro hk hK)
      subst hA0
      clear hk hK
      gi_wp2
      obtain ⟨hk, hK⟩ := HF.out
      refine ⟨by simp, .inl ⟨_, _, rfl, run_takeDeferred hK, ?_⟩⟩
      have hkD : Kept (· = D) W (W.putObj D (.deferred none)) := (Kept.refl _ _).grown (grownBy_putObj' W D (.deferred none)) (fun k e _ => by cases e; rfl)
      have z0' : (W.putObj D (.deferred none)).cell? ⟨w.heap.size, 0, none⟩ = some (.pointer none) := hkD.cell z0 (by show ¬ w.heap.size = D; omega)
      have z1' : (W.putObj D (.deferred none)).cell? ⟨w.heap.size + 1, 0, none⟩ = some (.int .i64 8) := hkD.cell z1 (by show ¬ w.heap.size + 1 = D; omega)
      have hkf : Kept (fun k => (k = w1.heap.size ∨ k = w.heap.size ∨ k = w.heap.size + 1) ∨ k = D) w3 (W.putObj D (.deferred none)) := (hk.mono (fun _ _ e => .inl e)).trans hkD (fun _ _ e => .inr e)
      generalize W.putObj D (.deferred none) = W6 at *
      refine ⟨_, cells2_run (x := .pointer none) (y := .int .i64 8) rfl rfl rfl (by go_simp) (by go_simp), ?_⟩
      rw [hO2]
      have hA6 := HA3.out.mark hkf (fun k hk e => by have := HF1.out k hk; have := HA1.out.disk.lt k hk; omega) (fun k hk e => by omega)
      exact ⟨es1, clk1, hA6, fun _ => rfl, fun h => by simp at h⟩
  · obtain rfl := hne h0
    have y0 : w1.cell? ⟨w.heap.size, 0, none⟩ = some (.pointer none) := by simp [World.cell?, hc0]
    have y1 : w1.cell? ⟨w.heap.size + 1, 0, none⟩ = some (.int .i64 0) := by simp [World.cell?, hc1]
    have y2 : w1.frozen? ⟨w.heap.size, 0, none⟩ = false := by simp [World.frozen?, hc0]
    have y3 : w1.frozen? ⟨w.heap.size + 1, 0, none⟩ = false := by simp [World.frozen?, hc1]
    have h0b : (e1 != 0) = true := by simp [h0]
    have HO1 : Hid (O = (e1, D1, J1, [])) := Lib.hid (by rw [hO.out, if_neg h0])
    have HE0 := Lib.hid h0
    have HC0 := Lib.hid hc0
    have HC1 := Lib.hid hc1
    clear hc0 hc1 hne heq h0 hO
    go_wp2_with fail
    obtain ⟨W, hW, hkW, z0, z1⟩ := set_two (x' := .pointer none) (y' := .int .i64 e1) HC0.out HC1.out
    rw [hW]
    clear hW y0 y1 y2 y3
    refine ⟨_, cells2_run (x := .pointer none) (y := .int .i64 e1) rfl rfl rfl (by go_simp) (by go_simp), ?_⟩
    rw [HO1.out]
    exact ⟨es1, clk1, HA1.out.mark hkW (fun k hk e => by have := HF1.out k hk; omega) (fun k hk e => by omega), fun _ => rfl, fun h => absurd h HE0.out⟩
end Go.Proofs.YtjnhkepgoghogaaGreatDoor
