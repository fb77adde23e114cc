/- store: where a store lies; object.Id, Bytes. -/
import Derived.Test.YtikacgiccllolaaGreatJourD
import Derived.Test.YtikacgiccllolaaGreatEqual
namespace Go.Proofs.YtikacgiccllolaaGreat
open Go.RowKit Go.ChangeMaps Go.MapKept

/-- The id of an object's bytes. -/
def idB (b : List UInt8) : Nat := max (hashB b) 1
theorem idB_lt (b : List UInt8) : idB b < 18446744073709551616 := by have := hashB_lt b; unfold idB; omega
theorem idB_pos (b : List UInt8) : 1 ≤ idB b := by unfold idB; omega
theorem id_any (w : World) (a : Option Addr) (c : Nat) (b : List UInt8) (h : IsB w (.slice a b.length c) b) : Calls Tryz.prog 39 #[.slice a b.length c] w fun e w' => e = .returned (.int .u64 (idB b)) ∧ w = w' := by
  have hH := hash_any w a c b h
  go_enter Tryz.func39, Tryz.ntmps39
  go_wp2_with fail
  refine hH.mono ?_
  rintro e w1 ⟨rfl, rfl⟩
  go_wp2
  all_goals go_ret
  all_goals refine ⟨?_, rfl⟩
  all_goals simp
  all_goals (unfold idB; omega)

/-- The records by their ids. -/
def atN : Nat → List (List UInt8) → List (Int × Nat)
  | _, [] => []
  | n, r :: l => ((idB r : Int), n) :: atN (n + 1) l
theorem atN_snoc (n : Nat) (l : List (List UInt8)) (r : List UInt8) : atN n (l ++ [r]) = atN n l ++ [((idB r : Int), n + l.length)] := by
  induction l generalizing n with
  | nil => simp [atN]
  | cons x l ih => simp only [List.cons_append, atN, ih, List.length_cons]; rw [show n + 1 + l.length = n + (l.length + 1) from by omega]
theorem atN_get (l : List (List UInt8)) : ∀ (n id : Nat), (getA (id : Int) (atN n l) = none ∧ l.find? (fun r => decide (idB r = id)) = none) ∨ ∃ k, ∃ hk : k < l.length, getA (id : Int) (atN n l) = some (n + k) ∧ l.find? (fun r => decide (idB r = id)) = some l[k] := by
  induction l with
  | nil => intro n id; exact .inl ⟨rfl, rfl⟩
  | cons r l ih =>
    intro n id
    by_cases h : idB r = id
    · refine .inr ⟨0, by simp, ?_, ?_⟩
      · simp [atN, getA, h]
      · simp [h]
    · have h2 : ¬ ((idB r : Int) = (id : Int)) := by omega
      rcases ih (n + 1) id with ⟨h3, h4⟩ | ⟨k, hk, h3, h4⟩
      · refine .inl ⟨?_, ?_⟩
        · simp only [atN, getA]; rw [if_neg h2]; exact h3
        · rw [List.find?_cons_of_neg (by simpa using h)]; exact h4
      · refine .inr ⟨k + 1, by simpa using hk, ?_, ?_⟩
        · simp only [atN, getA]; rw [if_neg h2, h3]; congr 1; omega
        · rw [List.find?_cons_of_neg (by simpa using h)]; exact h4

/-- A store at block s, over a journal at j. -/
structure StAt (w : World) (s j b m m2 : Nat) (es es2 : Array MapEntry) (clock clock2 : Nat) (av pv iv : Value) (D : DM) (J : JM) : Prop where
  jour : JAt w j b m es clock av pv D J
  cell : w.heap[s]? = some (.cells #[.pointer (some ⟨j, 0, none⟩), .map (some m2), iv] 93 (0, 0))
  map : w.heap[m2]? = some (.map es2 clock2)
  stamped : Stamped es2 clock2
  rel : RelM (Value.int .u64) (fun v (n : Nat) => v = .int .i64 n) es2.toList (atN 0 J.recs)
  ids : w.ownsRow 0 37 1 iv J.recs.length (J.recs.map fun r => .int .u64 (idB r))
  mm : m2 ≠ m
  nodup : (J.recs.map idB).Nodup
def stF (s j b m m2 : Nat) (es : Array MapEntry) (av pv iv : Value) (k : Nat) : Prop := k = s ∨ k = m2 ∨ iv.ownBlock = some k ∨ jourF j b m es av pv k

section
variable {w w' : World} {s j b m m2 : Nat} {es es2 : Array MapEntry} {clock clock2 : Nat} {av pv iv : Value} {D : DM} {J : JM}
theorem JAt.blockT (h : JAt w j b m es clock av pv D J) {k : Nat} (hk : jourF j b m es av pv k) : (k = m ∧ w.heap[k]? = some (.map es clock)) ∨ ∃ cur t, w.heap[k]? = some (.cells cur t (0, 0)) ∧ t ≠ 93 ∧ t ≠ 37 := by
  rcases hk with rfl | e | e | hd
  · exact .inr ⟨_, _, h.cell, by decide, by decide⟩
  · obtain ⟨cur, hc⟩ := ownsRow_block h.all e; exact .inr ⟨cur, _, hc, by decide, by decide⟩
  · obtain ⟨cur, hc⟩ := ownsRow_block h.parts e; exact .inr ⟨cur, _, hc, by decide, by decide⟩
  · rcases hd with rfl | rfl | ⟨e, he, hg⟩
    · exact .inr ⟨_, _, h.disk.cell, by decide, by decide⟩
    · exact .inl ⟨rfl, h.disk.map⟩
    · obtain ⟨p, _, _, hO⟩ := h.disk.rel.mem e he
      obtain ⟨cur, hc⟩ := ownsRow_block hO hg
      exact .inr ⟨cur, _, hc, by decide, by decide⟩
theorem StAt.apart (h : StAt w s j b m m2 es es2 clock clock2 av pv iv D J) : s ≠ m2 ∧ (∀ g, iv.ownBlock = some g → g ≠ s ∧ g ≠ m2 ∧ ¬ jourF j b m es av pv g) ∧ ¬ jourF j b m es av pv s ∧ ¬ jourF j b m es av pv m2 := by
  refine ⟨fun e => ?_, fun g e => ⟨fun e2 => ?_, fun e2 => ?_, fun hd => ?_⟩, fun hd => ?_, fun hd => ?_⟩
  · have := h.cell; rw [e, h.map] at this; cases this
  · obtain ⟨cur, hc⟩ := ownsRow_block h.ids e; rw [e2, h.cell] at hc; simp at hc
  · obtain ⟨cur, hc⟩ := ownsRow_block h.ids e; rw [e2, h.map] at hc; cases hc
  · obtain ⟨cur, hc⟩ := ownsRow_block h.ids e
    rcases h.jour.blockT hd with ⟨-, h2⟩ | ⟨cur2, t, h2, -, h3⟩
    · rw [hc] at h2; cases h2
    · rw [hc] at h2; simp at h2; exact h3 h2.2.symm
  · rcases h.jour.blockT hd with ⟨-, h2⟩ | ⟨cur2, t, h2, h3, -⟩
    · rw [h.cell] at h2; cases h2
    · rw [h.cell] at h2; simp at h2; exact h3 h2.2.symm
  · rcases h.jour.blockT hd with ⟨h1, -⟩ | ⟨cur2, t, h2, -, -⟩
    · exact h.mm h1
    · rw [h.map] at h2; cases h2
theorem StAt.lt (h : StAt w s j b m m2 es es2 clock clock2 av pv iv D J) : ∀ k, stF s j b m m2 es av pv iv k → k < w.heap.size := by
  rintro k (rfl | rfl | e | hd)
  · exact (Array.getElem?_eq_some_iff.1 h.cell).1
  · exact (Array.getElem?_eq_some_iff.1 h.map).1
  · obtain ⟨cur, hc⟩ := ownsRow_block h.ids e; exact (Array.getElem?_eq_some_iff.1 hc).1
  · exact h.jour.lt k hd
theorem StAt.kept (h : StAt w s j b m m2 es es2 clock clock2 av pv iv D J) {G : Nat → Prop} (hk : Kept G w w') (hG : ∀ k, stF s j b m m2 es av pv iv k → ¬ G k) : StAt w' s j b m m2 es es2 clock clock2 av pv iv D J :=
  ⟨h.jour.kept hk (fun k hd => hG k (.inr (.inr (.inr hd)))), (hk.block s (Array.getElem?_eq_some_iff.1 h.cell).1 (hG s (.inl rfl))).trans h.cell, (hk.block m2 (Array.getElem?_eq_some_iff.1 h.map).1 (hG m2 (.inr (.inl rfl)))).trans h.map, h.stamped, h.rel, rowKept h.ids hk (fun g _ e => hG g (.inr (.inr (.inl e)))), h.mm, h.nodup⟩
theorem StAt.keptN (h : StAt w s j b m m2 es es2 clock clock2 av pv iv D J) (hk : Kept (fun _ => False) w w') : StAt w' s j b m m2 es es2 clock clock2 av pv iv D J := h.kept hk (fun _ _ f => f)
theorem StAt.c (h : StAt w s j b m m2 es es2 clock clock2 av pv iv D J) : w.cell? ⟨s, 0, none⟩ = some (.pointer (some ⟨j, 0, none⟩)) ∧ w.cell? ⟨s, 1, none⟩ = some (.map (some m2)) ∧ w.cell? ⟨s, 2, none⟩ = some iv ∧ ∀ i, w.frozen? ⟨s, i, none⟩ = false := by
  refine ⟨?_, ?_, ?_, fun i => ?_⟩ <;> simp [World.cell?, World.frozen?, h.cell]
theorem zero_int (w : World) : (zeroValue 3).run Tryz.prog w = .ok (.int .i64 0) w := by kernel_rfl
theorem StAt.lookW (h : StAt w s j b m m2 es es2 clock clock2 av pv iv D J) (id : Nat) :
    ∃ k : Nat, (∀ w' : World, w'.heap[m2]? = some (.map es2 clock2) → (Instr.lookup 82 (.map (some m2)) (.int .u64 id) true).run Tryz.prog w' = .ok (.tuple #[.int .i64 k, .bool (J.recs.find? (fun r => decide (idB r = id))).isSome]) w') ∧
      (J.recs.find? (fun r => decide (idB r = id)) = none ∨ ∃ hk : k < J.recs.length, J.recs.find? (fun r => decide (idB r = id)) = some J.recs[k]) := by
  obtain ⟨v, hrun, hv⟩ := run_lookup_rel (m := m2) (clock := clock2) (keyEnc_int Tryz.underlying37) Tryz.underlying82 zero_int h.rel (id : Int) true
  rcases atN_get J.recs 0 id with ⟨h1, h2⟩ | ⟨k, hk, h1, h2⟩
  · rcases hv with ⟨-, rfl⟩ | ⟨bs, e, h3, -⟩
    · refine ⟨0, fun w' hm => ?_, .inl h2⟩
      have := hrun w' hm
      rw [h1] at this
      rw [h2]
      exact this
    · rw [h1] at h3; cases h3
  · rcases hv with ⟨h3, -⟩ | ⟨n, e, h3, rfl, -⟩
    · rw [h1] at h3; cases h3
    · rw [h1, Nat.zero_add] at h3
      cases h3
      refine ⟨k, fun w' hm => ?_, .inr ⟨hk, h2⟩⟩
      have := hrun w' hm
      rw [h1] at this
      rw [h2]
      exact this

set_option maxRecDepth 100000 in
theorem sbytes_any (h : StAt w s j b m m2 es es2 clock clock2 av pv iv D J) (id : Nat) :
    Calls Tryz.prog 43 #[.pointer (some ⟨s, 0, none⟩), .int .u64 id] w fun e w' =>
      match J.recs.find? (fun r => decide (idB r = id)) with
      | none => e = .returned (.tuple #[.slice none 0 0, .int .i64 4]) ∧ w = w'
      | some r => ∃ v, e = .returned (.tuple #[v, .int .i64 0]) ∧ FreshB w v r w' := by
  obtain ⟨c0, c1, c2, -⟩ := h.c
  obtain ⟨k, hlook, hf⟩ := h.lookW id
  have hl := hlook w h.map
  rcases hf with hf | ⟨hk, hf⟩
  · rw [hf] at hl ⊢
    simp only [Option.isSome_none] at hl
    clear hlook hf h
    go_enter Tryz.func43, Tryz.ntmps43
    go_wp2
    go_ret2
    exact ⟨rfl, rfl⟩
  · rw [hf] at hl ⊢
    simp only [Option.isSome_some] at hl
    have hR := Lib.hid (jrecord_any h.jour k hk)
    simp only
    generalize J.recs[k] = r at *
    clear hlook hf h hk
    go_enter Tryz.func43, Tryz.ntmps43
    go_wp2_with fail
    refine hR.out.mono ?_
    rintro e w1 ⟨v, rfl, hf1⟩
    go_wp2
    go_ret2
    exact ⟨v, rfl, hf1⟩
end
end Go.Proofs.YtikacgiccllolaaGreat

/- store: note, Put. -/
namespace Go.Proofs.YtikacgiccllolaaGreat
open Go.RowKit Go.ChangeMaps Go.MapKept

theorem Tryz.info37 : (Tryz.prog.info? 37).map (fun i => (i.zero, i.size, i.bytes)) = some (some (.int .u64 0), 1, 8) := by kernel_rfl
/-- What is a store's own. -/
structure StHalf (w : World) (s j m2 : Nat) (es2 : Array MapEntry) (clock2 : Nat) (iv : Value) (L : List (Int × Nat)) (I : List Value) : Prop where
  cell : w.heap[s]? = some (.cells #[.pointer (some ⟨j, 0, none⟩), .map (some m2), iv] 93 (0, 0))
  map : w.heap[m2]? = some (.map es2 clock2)
  stamped : Stamped es2 clock2
  rel : RelM (Value.int .u64) (fun v (n : Nat) => v = .int .i64 n) es2.toList L
  ids : w.ownsRow 0 37 1 iv I.length I

set_option maxRecDepth 100000 in
set_option maxHeartbeats 1000000 in
theorem note_any {w : World} {s j m2 : Nat} {es2 : Array MapEntry} {clock2 : Nat} {iv : Value} {L : List (Int × Nat)} {I : List Value} (h : StHalf w s j m2 es2 clock2 iv L I) (id k : Nat) (hno : getA (id : Int) L = none) (hI : I.length ≤ 100000) :
    Calls Tryz.prog 41 #[.pointer (some ⟨s, 0, none⟩), .int .u64 id, .int .i64 k] w fun e w' => e = .returned (.tuple #[]) ∧ ∃ es2' clock2' iv', StHalf w' s j m2 es2' clock2' iv' (L ++ [((id : Int), k)]) (I ++ [.int .u64 id]) ∧ (∀ g, iv'.ownBlock = some g → iv.ownBlock = some g ∨ w.heap.size ≤ g) ∧ Kept (fun k => k = s ∨ k = m2 ∨ iv.ownBlock = some k) w w' := by
  obtain ⟨es', clock', hrun, hrel, hst, -⟩ := run_mapUpdate_rel (m := m2) (R' := fun v (n : Nat) => v = .int .i64 n) (keyEnc_int Tryz.underlying37) Tryz.underlying82 h.rel h.stamped (id : Int) (.int .i64 k) k rfl (fun e _ _ b hb => hb)
  rw [putA_of_none hno] at hrel
  have hr := hrun w h.map
  have hsm : s ≠ m2 := fun e => by have := h.cell; rw [e, h.map] at this; cases this
  have hsl := (Array.getElem?_eq_some_iff.1 h.cell).1
  have hml := (Array.getElem?_eq_some_iff.1 h.map).1
  obtain ⟨w1, hw1⟩ : ∃ w1, setBlock w m2 (.map es' clock') = w1 := ⟨_, rfl⟩
  rw [hw1] at hr
  have hk1 : Kept (· = m2) w w1 := by rw [← hw1]; exact (Kept.refl (· = m2) w).setBlock (fun _ => rfl) _
  have e1 : w1.heap[s]? = _ := (hk1.block s hsl hsm).trans h.cell
  have c0 : w.cell? ⟨s, 1, none⟩ = some (.map (some m2)) := by simp [World.cell?, h.cell]
  have c1 : w1.cell? ⟨s, 2, none⟩ = some iv := by simp [World.cell?, e1]
  obtain ⟨w2, hw2⟩ : ∃ w2, w1.alloc (.cells #[.int .u64 id] 37) = w2 := ⟨_, rfl⟩
  have hk2 : Kept (fun _ => False) w1 w2 := by rw [← hw2]; exact (Kept.refl _ _).alloc _
  have hn : w2.cell? ⟨w1.heap.size, 0, none⟩ = some (.int .u64 id) := by rw [← hw2, World.cell?_alloc_new]; rfl
  have hivm : ∀ g, iv.ownBlock = some g → g ≠ m2 ∧ g ≠ s := fun g e => by
    obtain ⟨cur, hc⟩ := ownsRow_block h.ids e
    exact ⟨(fun e2 => by rw [e2, h.map] at hc; cases hc), (fun e2 => by rw [e2, h.cell] at hc; simp at hc)⟩
  have ho2 : w2.ownsRow 0 37 1 iv I.length I := rowKept (rowKept h.ids hk1 (fun g _ e e2 => (hivm g e).1 e2)) hk2 (fun _ _ _ f => f)
  obtain ⟨i0, hi, hz0, hz1, hz2⟩ := info_parts Tryz.info37
  obtain ⟨iv', w3, hrun3, ho3, hg3, -, hb3⟩ := run_append_own_at (P := Tryz.prog) w2 0 28 28 37 i0 _ 1 8 Tryz.underlying28 hi hz0 hz1 hz2 rfl (by decide) _ _ _ ho2 ⟨w1.heap.size, 0, none⟩ 1 1 [.int .u64 id] rfl (by
    intro i x hx
    match i, hx with
    | 0, hx => cases hx; exact hn
    | i + 1, hx => simp at hx) (by intro x hx; simp at hx; subst hx; rfl) (by unfold maxLen; omega) (by omega) (by omega)
  have hk3 : Kept (fun k => iv.ownBlock = some k) w2 w3 := Kept.grown (F := fun k => iv.ownBlock = some k) (Kept.refl _ _) hg3 (fun k hk _ => hk)
  obtain ⟨ia, ic, rfl⟩ : ∃ pa pc, iv = .slice pa I.length pc := by
    rcases h.ids.2 with ⟨rfl, h0⟩ | ⟨g, cap, cur, rfl, -⟩
    · exact ⟨none, 0, by rw [h0]⟩
    · exact ⟨_, _, rfl⟩
  obtain ⟨ja, jc, rfl⟩ : ∃ pa pc, iv' = .slice pa (I.length + 1) pc := by
    rcases ho3.2 with ⟨rfl, h0⟩ | ⟨g, cap, cur, rfl, -⟩
    · omega
    · exact ⟨_, _, rfl⟩
  have e2 : w2.heap[s]? = _ := (hk2.block s (Array.getElem?_eq_some_iff.1 e1).1 (fun f => f)).trans e1
  have e3 : w3.heap[s]? = _ := (hk3.block s (Array.getElem?_eq_some_iff.1 e2).1 (fun e => (hivm s e).2 rfl)).trans e2
  have d3 : w3.cell? ⟨s, 2, none⟩ = some (.slice ia I.length ic) := by simp [World.cell?, e3]
  have f3 : w3.frozen? ⟨s, 2, none⟩ = false := by simp [World.frozen?, e3]
  have hkS := (Kept.refl (· = s) w3).setCell (p := ⟨s, 2, none⟩) (fun _ => rfl) (.slice ja (I.length + 1) jc)
  have hs12 : w.heap.size ≤ w1.heap.size := hk1.size
  have hs23 : w1.heap.size ≤ w2.heap.size := hk2.size
  have hnb : ∀ g, (Value.slice ja (I.length + 1) jc).ownBlock = some g → (Value.slice ia I.length ic).ownBlock = some g ∨ w.heap.size ≤ g := fun g e => by
    rcases hb3 with e4 | e4
    · rw [e4] at e; exact .inl e
    · rw [e4] at e; cases e; exact .inr (by omega)
  have HF : Hid (∃ es2' clock2' iv', StHalf (w3.setCell ⟨s, 2, none⟩ (.slice ja (I.length + 1) jc)) s j m2 es2' clock2' iv' (L ++ [((id : Int), k)]) (I ++ [.int .u64 id]) ∧ (∀ g, iv'.ownBlock = some g → (Value.slice ia I.length ic).ownBlock = some g ∨ w.heap.size ≤ g) ∧ Kept (fun k => k = s ∨ k = m2 ∨ (Value.slice ia I.length ic).ownBlock = some k) w (w3.setCell ⟨s, 2, none⟩ (.slice ja (I.length + 1) jc))) := Lib.hid (by
    have hmw1 : w1.heap[m2]? = some (.map es' clock') := by rw [← hw1]; exact heap_setBlock_same h.map _
    have hm3 : w3.heap[m2]? = some (.map es' clock') := (hk3.block m2 (by have := (Array.getElem?_eq_some_iff.1 hmw1).1; omega) (fun e => (hivm m2 e).1 rfl)).trans ((hk2.block m2 (Array.getElem?_eq_some_iff.1 hmw1).1 (fun f => f)).trans hmw1)
    refine ⟨es', clock', _, ⟨heap_setCell_row (o := 2) e3 _, (hkS.block m2 (Array.getElem?_eq_some_iff.1 hm3).1 (fun e => hsm e.symm)).trans hm3, hst, hrel, ?_⟩, hnb, ?_⟩
    · rw [List.length_append]
      exact rowKept ho3 hkS (fun g _ e e2 => by
        rcases hnb g e with e4 | e4
        · exact (hivm g e4).2 e2
        · omega)
    · exact (((hk1.mono (fun i _ e => .inr (.inl e))).trans hk2 (fun _ _ f => f.elim)).trans hk3 (fun i _ e => .inr (.inr e))).trans hkS (fun i _ e => .inl e))
  clear h hrun hrel hst hk1 hk2 hk3 e1 e2 e3 ho2 ho3 hg3 hb3 hkS hnb hi hz0 hz1 hz2 hivm hsm hsl hml hs12 hs23 hno hw1
  go_enter Tryz.func41, Tryz.ntmps41
  go_wp2_with (at_builtin; refine wpList_append_run rfl (.tmp 16) (.tmp 18) #[28, 28] rfl _ _ _ _ rfl rfl hrun3 ?_)
  go_end0
  exact ⟨rfl, HF.out⟩
end Go.Proofs.YtikacgiccllolaaGreat

/- store: Put, Open. -/
namespace Go.Proofs.YtikacgiccllolaaGreat
open Go.RowKit Go.ChangeMaps Go.MapKept

/-- A store, its blocks in F. -/
def StoreAt (w : World) (s : Nat) (F : Nat → Prop) (D : DM) (J : JM) : Prop :=
  ∃ j b m m2 es es2 clock clock2 av pv iv, StAt w s j b m m2 es es2 clock clock2 av pv iv D J ∧ F = stF s j b m m2 es av pv iv
theorem StoreAt.kept {w w' : World} {s : Nat} {F : Nat → Prop} {D : DM} {J : JM} (h : StoreAt w s F D J) {G : Nat → Prop} (hk : Kept G w w') (hG : ∀ k, F k → ¬ G k) : StoreAt w' s F D J := by
  obtain ⟨j, b, m, m2, es, es2, clock, clock2, av, pv, iv, h1, rfl⟩ := h
  exact ⟨j, b, m, m2, es, es2, clock, clock2, av, pv, iv, h1.kept hk hG, rfl⟩
theorem StoreAt.keptN {w w' : World} {s : Nat} {F : Nat → Prop} {D : DM} {J : JM} (h : StoreAt w s F D J) (hk : Kept (fun _ => False) w w') : StoreAt w' s F D J := h.kept hk (fun _ _ f => f)
theorem StoreAt.lt {w : World} {s : Nat} {F : Nat → Prop} {D : DM} {J : JM} (h : StoreAt w s F D J) : ∀ k, F k → k < w.heap.size := by
  obtain ⟨j, b, m, m2, es, es2, clock, clock2, av, pv, iv, h1, rfl⟩ := h
  exact h1.lt
/-- What a call leaves of a store. -/
def SEnd (w : World) (s : Nat) (F : Nat → Prop) (D' : DM) (J' : JM) (w' : World) : Prop :=
  ∃ F', StoreAt w' s F' D' J' ∧ (∀ k, F' k → F k ∨ w.heap.size ≤ k) ∧ Kept F w w'
theorem SEnd.same {w w' : World} {s : Nat} {F : Nat → Prop} {D : DM} {J : JM} (h : StoreAt w s F D J) (hk : Kept (fun _ => False) w w') : SEnd w s F D J w' := ⟨F, h.keptN hk, fun _ h => .inl h, hk.mono (fun _ _ f => f.elim)⟩

/-- What Put answers, and what it leaves. -/
def putS (D : DM) (J : JM) (x : List UInt8) : Nat × Int × DM × JM :=
  match J.recs.find? (fun r => decide (idB r = idB x)) with
  | some r => if r = x then (idB x, 0, D, J) else (0, 7, D, J)
  | none => if (J.put D x).1 = 0 then (idB x, 0, (J.put D x).2.1, (J.put D x).2.2) else (0, (J.put D x).1, (J.put D x).2.1, (J.put D x).2.2)

set_option maxRecDepth 100000 in
set_option maxHeartbeats 1000000 in
theorem sput_any {w : World} {s : Nat} {F : Nat → Prop} {D : DM} {J : JM} (h : StoreAt w s F D J) (hcut : J.cut = false) (o : Value) (x : List UInt8)
    (hE : Calls Tryz.prog 42 #[o] w fun e w' => ∃ v, e = .returned (.tuple #[v, .int .i64 0]) ∧ FreshB w v x w')
    (hl : x.length ≤ 262144) (h1 : J.all.length + x.length ≤ 4194304) (h2 : J.size + (recB x).length ≤ 4194304) (h3 : J.recs.length + 1 ≤ 65536) (hw : D.writes < 2305843009213693952) :
    Calls Tryz.prog 22 #[.pointer (some ⟨s, 0, none⟩), o] w fun e w' => e = .returned (.tuple #[.int .u64 (putS D J x).1, .int .i64 (putS D J x).2.1]) ∧ SEnd w s F (putS D J x).2.2.1 (putS D J x).2.2.2 w' := by
  have hP : Hid (putS D J x = match J.recs.find? (fun r => decide (idB r = idB x)) with
    | some r => if r = x then (idB x, 0, D, J) else (0, 7, D, J)
    | none => if (J.put D x).1 = 0 then (idB x, 0, (J.put D x).2.1, (J.put D x).2.2) else (0, (J.put D x).1, (J.put D x).2.1, (J.put D x).2.2)) := Lib.hid rfl
  generalize putS D J x = R at hP ⊢
  have HE := Lib.hid hE
  obtain ⟨j, b, m, m2, es, es2, clock, clock2, av, pv, iv, hst, rfl⟩ := h
  have H0 := Lib.hid hst
  clear hE hst
  go_enter Tryz.func22, Tryz.ntmps22
  go_wp2_with fail
  refine HE.out.mono ?_
  rintro e w1 ⟨xv, rfl, hf1⟩
  obtain ⟨xa, xc, rfl, -, -⟩ := hf1.own.form
  have hB1 := hf1.own.isB
  have hID := Lib.hid (id_any w1 xa xc x hB1)
  have hBY := sbytes_any (H0.out.keptN hf1.kept) (idB x)
  go_wp2_with fail
  refine hID.out.mono ?_
  rintro e w1' ⟨rfl, rfl⟩
  cases hfd : J.recs.find? (fun r => decide (idB r = idB x)) with
  | some r =>
    rw [hfd] at hBY hP
    simp only at hBY hP
    have HBY := Lib.hid hBY
    clear hBY hfd
    go_wp2_with fail
    refine HBY.out.mono ?_
    rintro e w2 ⟨rv, rfl, hf2⟩
    have hEQ := Lib.hid (equal_any w2 _ _ r x hf2.own.isB (hB1.keptF hf2.kept (fun _ _ f => f)))
    by_cases hrx : r = x
    · rw [if_pos hrx] at hP
      rw [decide_eq_true hrx] at hEQ
      clear hrx
      go_wp2_with fail
      refine hEQ.out.mono ?_
      rintro e w3 ⟨rfl, rfl⟩
      go_wp2
      go_ret2
      rw [hP.out]
      exact ⟨rfl, SEnd.same ⟨j, b, m, m2, es, es2, clock, clock2, av, pv, iv, H0.out, rfl⟩ (hf1.kept.more hf2.kept (fun _ f => f.elim))⟩
    · rw [if_neg hrx] at hP
      rw [decide_eq_false hrx] at hEQ
      clear hrx
      go_wp2_with fail
      refine hEQ.out.mono ?_
      rintro e w3 ⟨rfl, rfl⟩
      go_wp2
      go_ret2
      rw [hP.out]
      exact ⟨rfl, SEnd.same ⟨j, b, m, m2, es, es2, clock, clock2, av, pv, iv, H0.out, rfl⟩ (hf1.kept.more hf2.kept (fun _ f => f.elim))⟩
  | none =>
    rw [hfd] at hBY hP
    simp only at hBY hP
    have HBY := Lib.hid hBY
    have HFD := Lib.hid hfd
    clear hBY hfd
    have h1t := H0.out.keptN hf1.kept
    obtain ⟨q0, q1, q2, qz⟩ := h1t.c
    obtain ⟨ia, ic, rfl⟩ : ∃ pa pc, iv = .slice pa J.recs.length pc := by
      rcases h1t.ids.2 with ⟨rfl, h0⟩ | ⟨g, cap, cur, rfl, -⟩
      · exact ⟨none, 0, by rw [h0]⟩
      · exact ⟨_, _, rfl⟩
    have hAP := jappend_any h1t.jour hcut xa xc x hB1 (fun g e hd => by
      have h5 := hf1.new g e
      have h6 := H0.out.jour.disk.lt g hd
      omega) hl h1 h2 (by omega) hw
    have hge : ¬ (65536 : Int) ≤ (J.recs.length : Int) := by omega
    have hJM : J.put D x = if (D.append J.file (recB x)).1 = 0 then (0, (D.append J.file (recB x)).2, J.add x (recB x).length) else ((D.append J.file (recB x)).1, (D.append J.file (recB x)).2, { J with cut := (D.append J.file (recB x)).1 == 6 }) := rfl
    obtain ⟨⟨r, D', J'⟩, hr⟩ : ∃ q, J.put D x = q := ⟨_, rfl⟩
    rw [hr] at hAP hP hJM
    simp only at hAP hP
    have HJM := Lib.hid hJM
    have HAP := Lib.hid hAP
    have HT := Lib.hid h1t
    have HS3 := Lib.hid h3
    clear hAP hr hJM h1t qz h1 h2 h3 hw hl
    go_wp2_with fail
    refine HBY.out.mono ?_
    rintro e w1' ⟨rfl, rfl⟩
    obtain ⟨nr, hnr⟩ : ∃ nr, J.recs.length = nr := ⟨_, rfl⟩
    rw [hnr] at q2 hge
    have HNR := Lib.hid hnr
    clear hnr
    have hge2 : decide ((65536 : Int) ≤ (nr : Int)) = false := by simp; omega
    go_wp2_with fail
    refine HAP.out.mono ?_
    rintro e w2 ⟨rfl, es', clock', av', pv', hj2, hft, hkJ⟩
    by_cases hr0 : r = 0
    · subst hr0
      rw [if_pos rfl] at hP
      have hJ' : J' = J.add x (recB x).length := by
        have := HJM.out
        split at this
        · simpa using congrArg (fun q => q.2.2) this
        · rename_i hne
          exact absurd (congrArg (fun q => q.1) this).symm hne
      subst hJ'
      have HLN := Lib.hid (jlen_any hj2)
      obtain ⟨b1, b2, b3, b4⟩ := HT.out.apart
      have hs1 : w.heap.size ≤ w1.heap.size := hf1.kept.size
      have hsz := (Array.getElem?_eq_some_iff.1 HT.out.cell).1
      have hmz := (Array.getElem?_eq_some_iff.1 HT.out.map).1
      have hHalf : StHalf w2 s j m2 es2 clock2 (.slice ia J.recs.length ic) (atN 0 J.recs) (J.recs.map fun r => .int .u64 (idB r)) :=
        ⟨(hkJ.block s hsz b3).trans HT.out.cell, (hkJ.block m2 hmz b4).trans HT.out.map, HT.out.stamped, HT.out.rel, by rw [List.length_map]; exact rowKept HT.out.ids hkJ (fun g _ e => (b2 g e).2.2)⟩
      have hno : getA (idB x : Int) (atN 0 J.recs) = none := by
        rcases atN_get J.recs 0 (idB x) with ⟨h5, -⟩ | ⟨k, hk, -, h5⟩
        · exact h5
        · rw [HFD.out] at h5; cases h5
      have HNT := Lib.hid (note_any hHalf (idB x) J.recs.length hno (by rw [List.length_map]; have := HS3.out; omega))
      have hw0 : w2.cell? ⟨s, 0, none⟩ = some (.pointer (some ⟨j, 0, none⟩)) := by simp [World.cell?, hHalf.cell]
      have hlen2 : (J.add x (recB x).length).recs.length = J.recs.length + 1 := by simp [JM.add]
      rw [hlen2] at HLN
      have HJ2 := Lib.hid (And.intro hj2 (And.intro hft hkJ))
      have HB := Lib.hid (And.intro b1 (And.intro b2 (And.intro b3 b4)))
      have HZ := Lib.hid (And.intro hs1 (And.intro hsz hmz))
      clear hj2 hft hkJ hHalf hno hlen2 b1 b2 b3 b4 hs1 hsz hmz HJM
      have hrl : J.recs.length ≤ 65536 := by have := HS3.out; omega
      go_wp2_with fail
      refine HLN.out.mono ?_
      rintro e w2' ⟨rfl, rfl⟩
      go_wp2_with fail
      refine HNT.out.mono ?_
      rintro e w3 ⟨rfl, es2', clock2', iv', hh3, hiv, hk3⟩
      go_wp2
      go_ret2
      rw [hP.out]
      refine ⟨rfl, ?_⟩
      obtain ⟨hj2, hft, hkJ⟩ := HJ2.out
      obtain ⟨b1, b2, b3, b4⟩ := HB.out
      obtain ⟨hs1, hsz, hmz⟩ := HZ.out
      have hs2 : w1.heap.size ≤ w2.heap.size := hkJ.size
      refine ⟨_, ⟨j, b, m, m2, es', es2', clock', clock2', av', pv', iv', ⟨hj2.kept hk3 (fun k hd e => ?_), hh3.cell, hh3.map, hh3.stamped, ?_, ?_, HT.out.mm, ?_⟩, rfl⟩, fun k hk => ?_, ?_⟩
      · rcases hft k hd with h5 | h5
        · rcases e with rfl | rfl | e
          · exact b3 h5
          · exact b4 h5
          · exact (b2 k e).2.2 h5
        · rcases e with rfl | rfl | e
          · omega
          · omega
          · obtain ⟨cur, hc⟩ := ownsRow_block HT.out.ids e
            have := (Array.getElem?_eq_some_iff.1 hc).1
            omega
      · have := hh3.rel
        show RelM _ _ _ (atN 0 (J.recs ++ [x]))
        rw [atN_snoc, Nat.zero_add]
        exact this
      · have := hh3.ids
        rw [List.length_append, List.length_map] at this
        show World.ownsRow _ 0 _ 1 _ (J.recs ++ [x]).length ((J.recs ++ [x]).map fun r => Value.int .u64 (idB r))
        rw [List.length_append, List.map_append]
        exact this
      · show ((J.recs ++ [x]).map idB).Nodup
        rw [List.map_append, List.nodup_append]
        refine ⟨HT.out.nodup, by simp, fun a ha y hy e => ?_⟩
        obtain ⟨r, hr, rfl⟩ := List.mem_map.1 ha
        simp only [List.map_cons, List.map_nil, List.mem_singleton] at hy
        exact List.find?_eq_none.1 HFD.out r hr (by simp only [decide_eq_true_eq]; rw [e, hy])
      · rcases hk with rfl | rfl | e | hd
        · exact .inl (.inl rfl)
        · exact .inl (.inr (.inl rfl))
        · rcases hiv k e with h5 | h5
          · exact .inl (.inr (.inr (.inl h5)))
          · exact .inr (by omega)
        · rcases hft k hd with h5 | h5
          · exact .inl (.inr (.inr (.inr h5)))
          · exact .inr (by omega)
      · exact ((hf1.kept.mono (fun _ _ f => f.elim)).trans hkJ (fun i _ e => .inr (.inr (.inr e)))).trans hk3 (fun i _ e => by
          rcases e with e | e | e
          · exact .inl e
          · exact .inr (.inl e)
          · exact .inr (.inr (.inl e)))
    · rw [if_neg hr0] at hP
      have hr1 : (r != 0) = true := by simpa using hr0
      have hJ' : J'.recs = J.recs := by
        have := HJM.out
        split at this
        · exact absurd (congrArg (fun q => q.1) this) hr0
        · rw [show J' = { J with cut := (D.append J.file (recB x)).1 == 6 } from congrArg (fun q => q.2.2) this]
      have HJ2 := Lib.hid (And.intro hj2 (And.intro hft hkJ))
      clear hj2 hft hkJ
      go_wp2
      go_ret2
      rw [hP.out]
      refine ⟨rfl, ?_⟩
      obtain ⟨hj2, hft, hkJ⟩ := HJ2.out
      obtain ⟨b1, b2, b3, b4⟩ := HT.out.apart
      have hs1 : w.heap.size ≤ w1.heap.size := hf1.kept.size
      have hsz := (Array.getElem?_eq_some_iff.1 HT.out.cell).1
      have hmz := (Array.getElem?_eq_some_iff.1 HT.out.map).1
      refine ⟨_, ⟨j, b, m, m2, es', es2, clock', clock2, av', pv', _, ⟨hj2, (hkJ.block s hsz b3).trans HT.out.cell, (hkJ.block m2 hmz b4).trans HT.out.map, HT.out.stamped, by rw [hJ']; exact HT.out.rel, by rw [hJ']; exact rowKept HT.out.ids hkJ (fun g _ e => (b2 g e).2.2), HT.out.mm, by rw [hJ']; exact HT.out.nodup⟩, rfl⟩, fun k hk => ?_, (hf1.kept.mono (fun _ _ f => f.elim)).trans hkJ (fun i _ e => .inr (.inr (.inr e)))⟩
      rcases hk with rfl | rfl | e | hd
      · exact .inl (.inl rfl)
      · exact .inl (.inr (.inl rfl))
      · exact .inl (.inr (.inr (.inl e)))
      · rcases hft k hd with h5 | h5
        · exact .inl (.inr (.inr (.inr h5)))
        · exact .inr (by omega)
end Go.Proofs.YtikacgiccllolaaGreat
