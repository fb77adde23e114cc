/- []api.Ref: rows of names and ids; espalierlaw08.cut, alike. -/
import Derived.Test.YtjnhkepgoghogaaGreatDoorRsA
import Derived.Test.YtjnhkepgoghogaaGreatDoorRsM
import Derived.Test.YtjnhkepgoghogaaGreatDoorPhase
import Derived.Test.YtjnhkepgoghogaaGreatDoorRsE
import Derived.BigQuiet
namespace Go.Proofs.YtjnhkepgoghogaaGreatDoor
open Go.RowKit Go.ChangeMaps Go.MapKept
set_option linter.unusedSimpArgs false

def encR (p : ByteArray × Nat) : List Value := [.string p.1, .int .u64 p.2]
def flatR (l : IdsL) : List Value := l.flatMap encR
theorem Tryz.info38 : (Tryz.prog.info? 38).map (fun i => (i.zero, i.size, i.bytes)) = some (some (.agg #[.string { data := #[] }, .int .u64 0]), 2, 24) := by kernel_rfl
theorem flatR_length (l : IdsL) : (flatR l).length = l.length * 2 := by
  induction l with
  | nil => rfl
  | cons p l ih => simp only [flatR, List.flatMap_cons, List.length_append, List.length_cons] at *; rw [ih]; simp [encR]; omega
theorem flatR_append (l m : IdsL) : flatR (l ++ m) = flatR l ++ flatR m := by simp [flatR]
theorem flatR_get (l : IdsL) (k : Nat) (hk : k < l.length) : (flatR l)[k * 2]? = some (.string l[k].1) ∧ (flatR l)[k * 2 + 1]? = some (.int .u64 l[k].2) := by
  induction l generalizing k with
  | nil => simp at hk
  | cons p l ih =>
    cases k with
    | zero => simp [flatR, encR]
    | succ k =>
      have := ih k (by simpa using hk)
      simp only [flatR, List.flatMap_cons, List.getElem_cons_succ] at this ⊢
      rw [List.getElem?_append_right (by simp [encR]; omega), List.getElem?_append_right (by simp [encR]; omega), show (k + 1) * 2 - (encR p).length = k * 2 from by simp [encR]; omega, show (k + 1) * 2 + 1 - (encR p).length = k * 2 + 1 from by simp [encR]; omega]
      exact this
/-- A row of refs of our own. -/
def OwnR (b : Nat) (w : World) (v : Value) (l : IdsL) : Prop := w.ownsRow b 38 2 v l.length (flatR l)
/-- A slice that reads as refs. -/
def IsR (w : World) (v : Value) (l : IdsL) : Prop :=
  ∃ a c, v = .slice a l.length c ∧ l.length ≤ c ∧ c ≤ maxLen ∧ (l = [] ∨ ∃ g o, a = some ⟨g, o, none⟩ ∧ g < w.heap.size ∧ ∀ i x, (flatR l)[i]? = some x → w.cell? ⟨g, o + i, none⟩ = some x)
theorem OwnR.form {b : Nat} {w : World} {v : Value} {l : IdsL} (h : OwnR b w v l) : ∃ a c, v = .slice a l.length c ∧ l.length ≤ c ∧ c ≤ maxLen := by
  rcases h.2 with ⟨rfl, h0⟩ | ⟨g, cap, cur, rfl, _, _, hn, hm, _⟩
  · exact ⟨none, 0, by rw [h0], by omega, by simp [maxLen]⟩
  · exact ⟨_, cap, rfl, hn, hm⟩
theorem rowKeptF {b : Nat} {w w' : World} {t k : Nat} {v : Value} {n : Nat} {l : List Value} {F : Nat → Prop} (h : w.ownsRow b t k v n l) (hk : Kept F w w') (hF : ∀ g, b ≤ g → v.ownBlock = some g → ¬ F g) : w'.ownsRow b t k v n l := by
  refine ⟨h.1, ?_⟩
  rcases h.2 with h2 | ⟨g, cap, cur, rfl, h3, h4, h5⟩
  · exact .inl h2
  · exact .inr ⟨g, cap, cur, rfl, h3, (hk.block g (Array.getElem?_eq_some_iff.1 h4).1 (hF g h3 rfl)).trans h4, h5⟩
theorem OwnR.kept {b : Nat} {w w' : World} {v : Value} {l : IdsL} {F : Nat → Prop} (h : OwnR b w v l) (hk : Kept F w w') (hF : ∀ k, b ≤ k → ¬ F k) : OwnR b w' v l := rowKeptF h hk (fun g hg _ => hF g hg)
theorem OwnR.keptN {b : Nat} {w w' : World} {v : Value} {l : IdsL} (h : OwnR b w v l) (hk : Kept (fun _ => False) w w') : OwnR b w' v l := rowKeptF h hk (fun _ _ _ f => f)
theorem OwnR.mono {b b' : Nat} {w : World} {v : Value} {l : IdsL} (h : OwnR b w v l) (hb : b' ≤ b) : OwnR b' w v l := by
  refine ⟨h.1, ?_⟩
  rcases h.2 with h2 | ⟨g, cap, cur, rfl, h3, h4⟩
  · exact .inl h2
  · exact .inr ⟨g, cap, cur, rfl, by omega, h4⟩
theorem OwnR.nil (b : Nat) (w : World) : OwnR b w (.slice none 0 0) [] := World.ownsRow_nil _ _ _ _
theorem OwnR.isR {b : Nat} {w : World} {v : Value} {l : IdsL} (h : OwnR b w v l) : IsR w v l := by
  obtain ⟨a, c, hv, h1, h2⟩ := h.form
  refine ⟨a, c, hv, h1, h2, ?_⟩
  rcases h.2 with ⟨_, h0⟩ | ⟨g, cap, cur, e, _, hg, _, _, _, ht⟩
  · exact .inl (List.length_eq_zero_iff.1 h0)
  · rw [hv] at e
    cases e
    refine .inr ⟨g, 0, rfl, (Array.getElem?_eq_some_iff.1 hg).1, fun i x hx => ?_⟩
    rw [Nat.zero_add, cell_of_row w g i cur _ _ hg]
    rw [← ht, List.getElem?_take] at hx
    split at hx
    · simpa using hx
    · cases hx
theorem IsR.at {w : World} {a : Option Addr} {n c : Nat} {l : IdsL} (h : IsR w (.slice a n c) l) {k : Nat} (hk : k < l.length) : ∃ g o, a = some ⟨g, o, none⟩ ∧ g < w.heap.size ∧ w.cell? ⟨g, o + k * 2, none⟩ = some (.string l[k].1) ∧ w.cell? ⟨g, o + k * 2 + 1, none⟩ = some (.int .u64 l[k].2) := by
  obtain ⟨a', c', e, -, -, h4⟩ := h
  cases e
  rcases h4 with rfl | ⟨g, o, rfl, hg, hc⟩
  · simp at hk
  · obtain ⟨h1, h2⟩ := flatR_get l k hk
    exact ⟨g, o, rfl, hg, hc _ _ h1, by rw [Nat.add_assoc]; exact hc _ _ h2⟩
theorem IsR.keptS {w w' : World} {v : Value} {l : IdsL} {F : Nat → Prop} (h : IsR w v l) (hk : Kept F w w') (hF : l ≠ [] → ∀ g, v.ownBlock = some g → ¬ F g) : IsR w' v l := by
  obtain ⟨a, c, rfl, h1, h2, h4⟩ := h
  refine ⟨a, c, rfl, h1, h2, ?_⟩
  by_cases hl : l = []
  · exact .inl hl
  rcases h4 with h4 | ⟨g, o, rfl, hg, hc⟩
  · exact .inl h4
  · exact .inr ⟨g, o, rfl, Nat.lt_of_lt_of_le hg hk.size, fun i x hx => hk.cell (hc i x hx) (hF hl g rfl)⟩
theorem IsR.keptN {w w' : World} {v : Value} {l : IdsL} (h : IsR w v l) (hk : Kept (fun _ => False) w w') : IsR w' v l := h.keptS hk (fun _ _ _ f => f)
theorem IsR.take {w : World} {a : Option Addr} {c : Nat} {l : IdsL} (h : IsR w (.slice a l.length c) l) (k : Nat) (hk : k ≤ l.length) : IsR w (.slice a k c) (l.take k) := by
  obtain ⟨a', c', he, h1, h2, h4⟩ := h
  cases he
  refine ⟨a, c, by rw [List.length_take, Nat.min_eq_left hk], by rw [List.length_take]; omega, h2, ?_⟩
  rcases h4 with rfl | ⟨g, o, rfl, hg, hc⟩
  · left; simp
  · right
    refine ⟨g, o, rfl, hg, fun i x hx => hc i x ?_⟩
    have e : flatR l = flatR (l.take k) ++ flatR (l.drop k) := by rw [← flatR_append, List.take_append_drop]
    rw [e, List.getElem?_append_left (List.getElem?_eq_some_iff.1 hx).1]
    exact hx
/-- One ref more behind a row of our own. -/
theorem OwnR.push {b : Nat} {w : World} {v : Value} {l : IdsL} (h : OwnR b w v l) (hk0 : b ≤ w.heap.size) (a : Addr) (p : ByteArray × Nat) (h0 : w.cell? a = some (.string p.1)) (h1 : w.cell? (a.add 1) = some (.int .u64 p.2)) (hl : l.length + 1 ≤ 1000000000000) :
    ∃ v' w', (Builtin.append_ #[30, 30] 30 #[v, .slice (some a) 1 1]).run Tryz.prog w = .ok v' w' ∧ OwnR b w' v' (l ++ [p]) ∧ w.grownBy w' v.ownBlock ∧ (v'.ownBlock = v.ownBlock ∨ v'.ownBlock = some w.heap.size) := by
  obtain ⟨i0, hi, hz0, hz1, hz2⟩ := info_parts Tryz.info38
  obtain ⟨v', w', hrun, ho2, hg2, -, hb2⟩ := run_append_own_at (P := Tryz.prog) w b 30 30 38 i0 _ 2 24 Tryz.underlying30 hi hz0 hz1 hz2 rfl (by decide) _ _ _ h a 1 1 (encR p) rfl (by
    intro j u hu
    match j, hu with
    | 0, hu => cases hu; exact h0
    | 1, hu => cases hu; exact h1
    | j + 2, hu => simp [encR] at hu) (by intro u hu; simp [encR] at hu; rcases hu with rfl | rfl <;> rfl) (by unfold maxLen; omega) (by omega) hk0
  refine ⟨v', w', hrun, ?_, hg2, hb2⟩
  unfold OwnR
  rw [flatR_append, List.length_append, show flatR [p] = encR p from by simp [flatR]]
  exact ho2
/-- A ref's box. -/
theorem ref_new (w : World) (s : ByteArray) (n : Nat) : ∃ w2, w.alloc (.cells #[.string s, .int .u64 n] 38) = w2 ∧ Kept (fun _ => False) w w2 ∧ w2.heap.size = w.heap.size + 1 ∧ w2.heap[w.heap.size]? = some (.cells #[.string s, .int .u64 n] 38 (0, 0)) :=
  ⟨_, rfl, (Kept.refl _ _).alloc _, by simp, heap_alloc_new _ _⟩
end Go.Proofs.YtjnhkepgoghogaaGreatDoor

/- refs.Set: the loop. -/
namespace Go.Proofs.YtjnhkepgoghogaaGreatDoor
open Go.RowKit Go.ChangeMaps Go.MapKept
set_option linter.unusedSimpArgs false

/-- A map from names to whether they were met. -/
structure MetAt (w : World) (m : Nat) (es : Array MapEntry) (clock : Nat) (l : List (ByteArray × Bool)) : Prop where
  map : w.heap[m]? = some (.map es clock)
  stamped : Stamped es clock
  rel : RelM Value.string (fun v b => v = .bool b) es.toList l
theorem MetAt.kept {w w' : World} {m : Nat} {es : Array MapEntry} {clock : Nat} {l : List (ByteArray × Bool)} (h : MetAt w m es clock l) {G : Nat → Prop} (hk : Kept G w w') (hG : ¬ G m) : MetAt w' m es clock l :=
  ⟨(hk.block m (Array.getElem?_eq_some_iff.1 h.map).1 hG).trans h.map, h.stamped, h.rel⟩
theorem zero_boolT (w : World) : (zeroValue 4).run Tryz.prog w = .ok (.bool false) w := by kernel_rfl
theorem MetAt.look {w : World} {m : Nat} {es : Array MapEntry} {clock : Nat} {l : List (ByteArray × Bool)} (h : MetAt w m es clock l) (s : ByteArray) (w' : World) (hm : w'.heap[m]? = some (.map es clock)) :
    (Instr.lookup 69 (.map (some m)) (.string s) false).run Tryz.prog w' = .ok (.bool ((getA s l).getD false)) w' := by
  obtain ⟨v, hrun, hv⟩ := run_lookup_rel (m := m) (clock := clock) (keyEnc_string Tryz.underlying9) Tryz.underlying69 zero_boolT h.rel s false
  rw [hrun w' hm]
  rcases hv with ⟨h1, rfl⟩ | ⟨n, e, h1, h2, -⟩
  · rw [h1]; rfl
  · rw [h1]; subst h2; rfl
theorem MetAt.put {w : World} {m : Nat} {es : Array MapEntry} {clock : Nat} {l : List (ByteArray × Bool)} (h : MetAt w m es clock l) (s : ByteArray) (n : Bool) :
    ∃ es' clock', (∀ w' : World, w'.heap[m]? = some (.map es clock) → (Instr.mapUpdate 69 (.map (some m)) (.string s) (.bool n)).run Tryz.prog w' = .ok () (setBlock w' m (.map es' clock'))) ∧
      ∀ w' : World, w'.heap[m]? = some (.map es clock) → MetAt (setBlock w' m (.map es' clock')) m es' clock' (putA s n l) := by
  obtain ⟨es', clock', hrun, hrel, hst, -⟩ := run_mapUpdate_rel (m := m) (R' := fun v b => v = Value.bool b) (keyEnc_string Tryz.underlying9) Tryz.underlying69 h.rel h.stamped s (.bool n) n rfl (fun _ _ _ _ h => h)
  refine ⟨es', clock', fun w' hm => hrun w' hm, fun w' hm => ⟨?_, hst, hrel⟩⟩
  have hmlt := (Array.getElem?_eq_some_iff.1 hm).1
  simp [ChangeMaps.setBlock, hmlt]

/-- What Set does behind its loop. -/
def setOf (D : DM) (J : JM) (S : IdsL) (R : Int × ScanS) : Int × DM × JM × IdsL :=
  if R.1 ≠ 0 then (R.1, D, J, S)
  else if 64 < (layL S R.2.cs).length then (3, D, J, S)
  else if R.2.cs = [] then (0, D, J, S)
  else if (J.put D (recOf R.2.cs)).1 = 0 then (0, (J.put D (recOf R.2.cs)).2.1, (J.put D (recOf R.2.cs)).2.2, layL S R.2.cs)
  else ((J.put D (recOf R.2.cs)).1, (J.put D (recOf R.2.cs)).2.1, (J.put D (recOf R.2.cs)).2.2, S)
/-- What Set does. -/
def setR (D : DM) (J : JM) (S l : IdsL) : Int × DM × JM × IdsL := setOf D J S (scanOf S l)
theorem RefsAt.kept {w w' : World} {r im : Nat} {ies : Array MapEntry} {iclk j b m : Nat} {es : Array MapEntry} {clock : Nat} {av pv : Value} {l : IdsL} {D : DM} {J : JM} {S : IdsL} (h : RefsAt w r im ies iclk j b m es clock av pv l D J S) {G : Nat → Prop} (hk : Kept G w w') (hG : ∀ k, (k = r ∨ k = im ∨ jourF j b m es av pv k) → ¬ G k) : RefsAt w' r im ies iclk j b m es clock av pv l D J S :=
  ⟨⟨(hk.block r (Array.getElem?_eq_some_iff.1 h.refs.cell).1 (hG r (.inl rfl))).trans h.refs.cell, h.refs.ids.kept hk (hG im (.inr (.inl rfl))), h.refs.perm⟩, h.jour.kept hk (fun k hk => hG k (.inr (.inr hk))), h.apart⟩
theorem RefsAt.keptN {w w' : World} {r im : Nat} {ies : Array MapEntry} {iclk j b m : Nat} {es : Array MapEntry} {clock : Nat} {av pv : Value} {l : IdsL} {D : DM} {J : JM} {S : IdsL} (h : RefsAt w r im ies iclk j b m es clock av pv l D J S) (hk : Kept (fun _ => False) w w') : RefsAt w' r im ies iclk j b m es clock av pv l D J S := h.kept hk (fun _ _ f => f)
theorem scanGo_step {S l : IdsL} {st : ScanS} {s : ByteArray} {id : Nat} : scanGo S ((s, id) :: l) st = if mayOf s ≠ 0 then (mayOf s, st) else if (getA s st.met).getD false = true then (5, st) else if id = 0 ∧ getA s S = none then (4, st) else scanGo S l ⟨putA s true st.met, if (getA s S).getD 0 = id then st.cs else st.cs ++ [(s, id)]⟩ := by rw [scanGo]

/-- What Set leaves. -/
def SetEnd (w : World) (r im j b m : Nat) (es : Array MapEntry) (av pv : Value) (O : Int × DM × JM × IdsL) (w' : World) : Prop :=
  ∃ ies' iclk' es' clock' av' pv' S1, RefsAt w' r im ies' iclk' j b m es' clock' av' pv' S1 O.2.1 O.2.2.1 O.2.2.2 ∧ (∀ k, jourF j b m es' av' pv' k → jourF j b m es av pv k ∨ w.heap.size ≤ k) ∧ Kept (fun k => k = im ∨ jourF j b m es av pv k) w w'
theorem textB_len (s : ByteArray) (h : s.size ≤ 200) : (textB s).length ≤ 202 := by
  have := uintB_len s.size 2 (by omega) (by omega)
  unfold textB
  rw [List.length_append, txB_length]
  omega
theorem payB_len (cs : IdsL) (h : ∀ c ∈ cs, c.1.size ≤ 200) : (payB cs).length ≤ cs.length * 210 := by
  induction cs with
  | nil => simp [payB]
  | cons c cs ih =>
    have h1 := textB_len c.1 (h c (by simp))
    have h2 := ih (fun x hx => h x (by simp [hx]))
    have h3 := wordB_len8 c.2
    have e : payB (c :: cs) = (textB c.1 ++ wordB c.2) ++ payB cs := by simp [payB]
    rw [e]
    simp only [List.length_append, List.length_cons]
    omega

theorem layL_len (S cs : IdsL) : (layL S cs).length ≤ S.length + cs.length := by
  induction cs generalizing S with
  | nil => simp [layL]
  | cons c cs ih =>
    refine Nat.le_trans (ih (layOne S c)) ?_
    rw [length_layOne, List.length_cons]
    split <;> split <;> omega
theorem ScanOk.fresh {S : IdsL} {st : ScanS} (h : ScanOk S st) (hS : NodupA S) {s : ByteArray} (hm : ¬ (getA s st.met).getD false = true) : getA s st.cs = none ∧ getA s (layL S st.cs) = getA s S := by
  have h1 : getA s st.cs = none := getA_of_not_mem (fun hx => by
    obtain ⟨c, hc, rfl⟩ := List.mem_map.1 hx
    exact hm (h.sub c hc))
  exact ⟨h1, by rw [getA_layL hS h.nodup, h1]⟩

theorem RefsAt.out {w : World} {r im : Nat} {ies : Array MapEntry} {iclk j b m : Nat} {es : Array MapEntry} {clock : Nat} {av pv : Value} {l : IdsL} {D : DM} {J : JM} {S : IdsL} (h : RefsAt w r im ies iclk j b m es clock av pv l D J S) : ¬ jourF j b m es av pv r ∧ ¬ jourF j b m es av pv im ∧ r ≠ im := by
  have hc := h.refs.cell
  have hi := h.refs.ids.map
  refine ⟨?_, ?_, fun e => by rw [e, hi] at hc; cases hc⟩
  · rintro (e | e | e | e)
    · rw [e, h.jour.cell] at hc; simp at hc
    · obtain ⟨cur, h2⟩ := ownsRow_block h.jour.all e; rw [hc] at h2; simp at h2
    · obtain ⟨cur, h2⟩ := ownsRow_block h.jour.parts e; rw [hc] at h2; simp at h2
    · rcases h.jour.disk.blockT e with ⟨c, h2⟩ | ⟨cur, h2 | h2⟩ <;> rw [hc] at h2 <;> simp at h2
  · rintro (e | e | e | e)
    · rw [e, h.jour.cell] at hi; simp at hi
    · obtain ⟨cur, h2⟩ := ownsRow_block h.jour.all e; rw [hi] at h2; simp at h2
    · obtain ⟨cur, h2⟩ := ownsRow_block h.jour.parts e; rw [hi] at h2; simp at h2
    · rcases e with e | e | ⟨x, hx, e⟩
      · rw [e, h.jour.disk.cell] at hi; simp at hi
      · exact h.apart e
      · obtain ⟨p, _, _, hO⟩ := h.jour.disk.rel.mem x hx
        obtain ⟨cur, h2⟩ := ownsRow_block hO e
        rw [hi] at h2; simp at h2
set_option maxRecDepth 100000 in
set_option maxHeartbeats 2000000 in
theorem set_any {w : World} {r im : Nat} {ies : Array MapEntry} {iclk j b m : Nat} {es : Array MapEntry} {clock : Nat} {av pv : Value} {S0 S : IdsL} {D : DM} {J : JM} (h : RefsAt w r im ies iclk j b m es clock av pv S0 D J S) (la : Option Addr) (lc : Nat) (l : IdsL) (hl : IsR w (.slice la l.length lc) l)
    (hn : l.length ≤ 1000) (hid : ∀ p ∈ l, p.2 < 18446744073709551616) (hSl : S.length ≤ 64) (hcut : J.cut = false) (hb1 : J.all.length + 220000 ≤ 4194304) (hb2 : J.size + 220000 ≤ 4194304) (hb3 : J.recs.length + 1 ≤ 4194304) (hw : D.writes < 2305843009213693952) :
    Calls Tryz.prog 9 #[.pointer (some ⟨r, 0, none⟩), .slice la l.length lc] w fun e w' => e = .returned (.int .i64 (setR D J S l).1) ∧
      SetEnd w r im j b m es av pv (setR D J S l) w' := by
  have hcell := h.refs.cell
  have hS := h.refs.ids.nodup
  have hgp := get_of_perm hS h.refs.perm
  obtain ⟨wm, hwm⟩ : ∃ W, w.alloc (.map #[] 0) = W := ⟨_, rfl⟩
  obtain ⟨wc, hwc⟩ : ∃ W, wm.alloc (.map #[] 0) = W := ⟨_, rfl⟩
  have hkm : Kept (fun _ => False) w wm := by rw [← hwm]; exact (Kept.refl _ _).alloc _
  have hkc : Kept (fun _ => False) wm wc := by rw [← hwc]; exact (Kept.refl _ _).alloc _
  have hsm : wm.heap.size = w.heap.size + 1 := by rw [← hwm]; simp
  have hbm : wm.heap[w.heap.size]? = some (.map #[] 0) := by rw [← hwm]; exact heap_alloc_new _ _
  have hbc : wc.heap[w.heap.size + 1]? = some (.map #[] 0) := by rw [← hwc, ← hsm]; exact heap_alloc_new _ _
  have hk0 := hkm.more hkc (fun _ f => f.elim)
  have HM0 : Hid (MetAt wc w.heap.size #[] 0 []) := Lib.hid ⟨(hkc.block _ (by omega) (fun f => f)).trans hbm, stamped_empty 0, trivial⟩
  have HC0 : Hid (IdsAt wc (w.heap.size + 1) #[] 0 []) := Lib.hid ⟨hbc, stamped_empty 0, trivial, by simp [NodupA]⟩
  have HK0 := Lib.hid hk0
  have HH := Lib.hid h
  have HL := Lib.hid hl
  have HSM := Lib.hid hsm
  have HID := Lib.hid hid
  have HGP := Lib.hid hgp
  have hr0 := (hk0.block r (Array.getElem?_eq_some_iff.1 hcell).1 (fun f => f)).trans hcell
  have hi0 := h.refs.ids.keptF hk0
  have c0 : wc.cell? ⟨r, 0, none⟩ = some (.map (some im)) := by simp [World.cell?, hr0]
  have hlen0 := fun ty => len_map (P := Tryz.prog) Tryz.underlying63 ty wc hi0.map
  have hmm := @run_makeMap Tryz.prog
  rw [hi0.size] at hlen0
  have HS := Lib.hid (hS.perm h.refs.perm)
  obtain ⟨n, hn'⟩ : ∃ n, l.length = n := ⟨_, rfl⟩
  rw [hn'] at hn HL ⊢
  have HN := Lib.hid hn'
  clear h hl hid hgp hcell hS hkm hkc hsm hbm hbc hk0 hr0 hi0 hn'
  have HR : Hid (setR D J S l = setOf D J S (scanGo S l ⟨[], []⟩)) := Lib.hid rfl
  generalize setR D J S l = O at HR ⊢
  obtain ⟨R, hR⟩ : ∃ R, scanGo S l ⟨[], []⟩ = R := ⟨_, rfl⟩
  rw [hR] at HR
  have HG0 := Lib.hid hR
  clear hR
  go_enter Tryz.func9, Tryz.ntmps9
  go_wp2_with fail
  obtain ⟨CM, hCM⟩ : ∃ c, wm.heap.size = c := ⟨_, rfl⟩
  rw [hCM]
  rw [← HSM.out, hCM] at HC0
  have HCM : Hid (CM = w.heap.size + 1) := Lib.hid (by rw [← hCM]; exact HSM.out)
  have HSZ : Hid (w.heap.size + 2 ≤ wc.heap.size) := Lib.hid (by have := HC0.out.lt; have := HCM.out; omega)
  have HS0L : Hid (S0.length = (layL S []).length) := Lib.hid HH.out.refs.perm.length_eq
  clear hwm hwc hlen0 c0 hmm hCM
  go_loopg [7, 8, 26] n (fun g szv bv i wr => ∃ k st mes mclk ces cclk, k + g = n ∧ i = .int .i64 k ∧ szv = .int .i64 ((layL S st.cs).length : Nat) ∧ Hid (scanGo S (l.drop k) st = R) ∧ Hid (ScanOk S st ∧ st.cs.length ≤ k) ∧ Hid (MetAt wr w.heap.size mes mclk st.met) ∧ Hid (IdsAt wr CM ces cclk st.cs) ∧ Hid (IsB wr bv (payB st.cs)) ∧ Hid (payB st.cs ≠ [] → ∀ g, bv.ownBlock = some g → w.heap.size + 2 ≤ g) ∧ Hid (Kept (fun _ => False) w wr) ∧ Hid (w.heap.size + 2 ≤ wr.heap.size))
  case atStart =>
    exact ⟨0, ⟨[], []⟩, #[], 0, #[], 0, by omega, rfl, by rw [HS0L.out], HG0, Lib.hid ⟨ScanOk.start S, by simp⟩, HM0, HC0, Lib.hid ⟨none, 0, rfl, Nat.le_refl _, by simp [maxLen], .inl rfl⟩, Lib.hid (fun h => absurd rfl h), HK0, HSZ⟩
  case round =>
    obtain ⟨k, st, mes, mclk, ces, cclk, hkg, rfl, rfl, HG, HO, HM, HC, HB, HBM, HK, HW⟩ := hrel
    clear HM0 HC0 HK0 HSZ HG0
    have hki : k ≤ 1000 := by omega
    rcases Nat.eq_zero_or_pos gk with rfl | hpos
    · obtain rfl : k = n := by omega
      have hG : R = (0, st) := by rw [← HG.out, List.drop_eq_nil_of_le (by rw [HN.out]; exact Nat.le_refl _)]; rfl
      have HO1 : Hid (O = setOf D J S (0, st)) := Lib.hid (by rw [HR.out, hG])
      clear HR HG hG
      obtain ⟨L, hL⟩ : ∃ L, (layL S st.cs).length = L := ⟨_, rfl⟩
      rw [hL]
      have HLL := Lib.hid hL
      clear hL
      by_cases h64 : 64 < L
      · have h64b : (64 : Int) < (L : Int) := by omega
        have hO : Hid (O = (3, D, J, S)) := Lib.hid (by rw [HO1.out]; unfold setOf; simp only; rw [if_neg (by simp), if_pos (by rw [HLL.out]; exact h64)])
        go_wp2_with fail
        go_ret
        rw [hO.out]
        exact ⟨rfl, ies, iclk, es, clock, av, pv, S0, HH.out.keptN HK.out, fun k hk => .inl hk, HK.out.mono (fun _ _ f => f.elim)⟩
      · have h64b : ¬ (64 : Int) < (L : Int) := by omega
        have hln := fun ty => len_map (P := Tryz.prog) Tryz.underlying63 ty wr HC.out.map
        rw [HC.out.size] at hln
        by_cases hc0 : st.cs = []
        · rw [hc0] at hln
          simp only [List.length_nil] at hln
          have hO : Hid (O = (0, D, J, S)) := Lib.hid (by rw [HO1.out]; unfold setOf; simp only; rw [if_neg (by simp), if_neg (by rw [HLL.out]; exact h64), if_pos hc0])
          clear hc0
          go_wp2_with fail
          go_ret
          rw [hO.out]
          exact ⟨rfl, ies, iclk, es, clock, av, pv, S0, HH.out.keptN HK.out, fun k hk => .inl hk, HK.out.mono (fun _ _ f => f.elim)⟩
        · obtain ⟨cl, hcl⟩ : ∃ c, st.cs.length = c := ⟨_, rfl⟩
          have hcl0 : 0 < cl := by rw [← hcl]; exact List.length_pos_iff.2 hc0
          rw [hcl] at hln
          have HCLL : Hid (cl ≤ 1000) := Lib.hid (by have := HO.out.2; omega)
          have hcl0b : ((cl : Int) == 0) = false := by simp; omega
          have hcv : IntKind.u64.wrap (cl : Int) = (cl : Int) := by rw [IntKind.wrap_u64]; have := HCLL.out; omega
          have HPL : Hid ((payB st.cs).length ≤ 210000) := Lib.hid (by
            have h5 := payB_len st.cs (fun c hc => path_size (HO.out.1.may c hc))
            have h6 := HO.out.2
            have h7 : st.cs.length * 210 ≤ 1000 * 210 := Nat.mul_le_mul_right _ (by omega)
            omega)
          have hO2 : Hid (O = if (J.put D (recOf st.cs)).1 = 0 then (0, (J.put D (recOf st.cs)).2.1, (J.put D (recOf st.cs)).2.2, layL S st.cs) else ((J.put D (recOf st.cs)).1, (J.put D (recOf st.cs)).2.1, (J.put D (recOf st.cs)).2.2, S)) := Lib.hid (by rw [HO1.out]; unfold setOf; simp only; rw [if_neg (by simp), if_neg (by rw [HLL.out]; exact h64), if_neg hc0])
          have hrec : recOf st.cs = uintB cl ++ payB st.cs := by unfold recOf; rw [hcl]
          have HREC := Lib.hid hrec
          have HCLe := Lib.hid hcl
          have HPU := Lib.hid (putUint_any wr.drew (.slice none 0 0) [] cl (by have := HCLL.out; omega) ⟨none, 0, rfl, Nat.le_refl _, by simp [maxLen], .inl rfl⟩ (by simp))
          have hrw := (HK.out.block r (Array.getElem?_eq_some_iff.1 HH.out.refs.cell).1 (fun f => f)).trans HH.out.refs.cell
          have c1 : wr.drew.cell? ⟨r, 1, none⟩ = some (.pointer (some ⟨j, 0, none⟩)) := by show wr.cell? _ = _; simp [World.cell?, hrw]
          have cm : wr.drew.heap[CM]? = some (.map ces cclk) := HC.out.map
          have HKD : Hid (Kept (fun _ => False) w wr.drew) := Lib.hid HK.out.drew
          have HBD : Hid (IsB wr.drew u8 (payB st.cs)) := Lib.hid (HB.out.keptF (Kept.refl _ wr).drew (fun _ _ f => f))
          clear hc0 hcl hrec hrw h64 hcl0
          go_wp2_with fail
          have HLEN : Hid (∀ W : World, W.heap[CM]? = some (.map ces cclk) → ∀ ty, (Builtin.len_ #[63] ty #[.map (some CM)]).run Tryz.prog W = .ok (.int .i64 (cl : Nat)) W) := Lib.hid (fun W hm ty => by
            have h5 := len_map (P := Tryz.prog) Tryz.underlying63 ty W hm
            rw [h5]
            have := HC.out.size
            rw [HCLe.out] at this
            rw [this])
          have cl0 := HLEN.out wr.drew cm
          have HCM0 := Lib.hid cm
          clear cm
          have HS0 : (fun w' : World => w'.cell? ⟨r, 1, none⟩ = some (.pointer (some ⟨j, 0, none⟩)) ∧ ∀ ty, (Builtin.len_ #[63] ty #[.map (some CM)]).run Tryz.prog w' = .ok (.int .i64 (cl : Nat)) w') wr.drew := ⟨c1, cl0⟩
          clear c1 cl0
          refine wp_region_phase (fun w' => w'.cell? ⟨r, 1, none⟩ = some (.pointer (some ⟨j, 0, none⟩)) ∧ ∀ ty, (Builtin.len_ #[63] ty #[.map (some CM)]).run Tryz.prog w' = .ok (.int .i64 (cl : Nat)) w') (fun _ => false) (by kernel_rfl) HS0 (fun _ => ?_)
          refine wpAnyG_take (i := 0) (v := ?_) rfl (by kernel_rfl) (by kernel_rfl) (by kernel_rfl) (by kernel_rfl) (fun _ _ _ h => h) (Or.inl ⟨by rfl, ?_⟩) HS0 ?_
          rotate_left
          (intro w' hSw'; have ⟨_, _⟩ := hSw'; go_simp; try with_reducible rfl)
          try simp only [Act.put, List.setIfInBounds_toArray, List.set_cons_zero, List.set_cons_succ, List.getElem_toArray, List.getElem_cons_zero, List.getElem_cons_succ]
          refine wpAnyG_take (i := 1) (v := ?_) rfl (by kernel_rfl) (by kernel_rfl) (by kernel_rfl) (by kernel_rfl) (fun _ _ _ h => h) (Or.inl ⟨by rfl, ?_⟩) HS0 ?_
          rotate_left
          (intro w' hSw'; have ⟨_, _⟩ := hSw'; go_simp; try with_reducible rfl)
          try simp only [Act.put, List.setIfInBounds_toArray, List.set_cons_zero, List.set_cons_succ, List.getElem_toArray, List.getElem_cons_zero, List.getElem_cons_succ]
          refine wpAnyG_take (i := 2) (v := ?_) rfl (by kernel_rfl) (by kernel_rfl) (by kernel_rfl) (by kernel_rfl) (fun _ _ _ h => h) (Or.inl ⟨by rfl, ?_⟩) HS0 ?_
          rotate_left
          (intro w' hSw'; have ⟨_, _⟩ := hSw'; go_simp; try with_reducible rfl)
          try simp only [Act.put, List.setIfInBounds_toArray, List.set_cons_zero, List.set_cons_succ, List.getElem_toArray, List.getElem_cons_zero, List.getElem_cons_succ]
          refine wpAnyG_take (i := 3) (v := ?_) rfl (by kernel_rfl) (by kernel_rfl) (by kernel_rfl) (by kernel_rfl) (fun _ _ _ h => h) (Or.inl ⟨by rfl, ?_⟩) HS0 ?_
          rotate_left
          (intro w' hSw'; have ⟨_, _⟩ := hSw'; go_simp; try with_reducible rfl)
          try simp only [Act.put, List.setIfInBounds_toArray, List.set_cons_zero, List.set_cons_succ, List.getElem_toArray, List.getElem_cons_zero, List.getElem_cons_succ]
          refine wpAnyG_take (i := 4) (v := ?_) rfl (by kernel_rfl) (by kernel_rfl) (by kernel_rfl) (by kernel_rfl) (fun _ _ _ h => h) (Or.inl ⟨by rfl, ?_⟩) HS0 ?_
          rotate_left
          (intro w' hSw'; have ⟨_, _⟩ := hSw'; go_simp; try with_reducible rfl)
          try simp only [Act.put, List.setIfInBounds_toArray, List.set_cons_zero, List.set_cons_succ, List.getElem_toArray, List.getElem_cons_zero, List.getElem_cons_succ]
          refine wpAnyG_take (i := 5) (v := ?_) rfl (by kernel_rfl) (by kernel_rfl) (by kernel_rfl) (by kernel_rfl) (fun _ _ _ h => h) (Or.inl ⟨by rfl, ?_⟩) HS0 ?_
          rotate_left
          (intro w' hSw'; have ⟨_, _⟩ := hSw'; go_simp; try with_reducible rfl)
          try simp only [Act.put, List.setIfInBounds_toArray, List.set_cons_zero, List.set_cons_succ, List.getElem_toArray, List.getElem_cons_zero, List.getElem_cons_succ]
          refine wpAnyG_take (i := 6) (v := ?_) rfl (by kernel_rfl) (by kernel_rfl) (by kernel_rfl) (by kernel_rfl) (fun _ _ _ h => h) (Or.inl ⟨by rfl, ?_⟩) HS0 ?_
          rotate_left
          (intro w' hSw'; have ⟨_, _⟩ := hSw'; go_simp; try with_reducible rfl)
          try simp only [Act.put, List.setIfInBounds_toArray, List.set_cons_zero, List.set_cons_succ, List.getElem_toArray, List.getElem_cons_zero, List.getElem_cons_succ]
          refine wpAnyG_take (i := 8) (v := ?_) rfl (by kernel_rfl) (by kernel_rfl) (by kernel_rfl) (by kernel_rfl) (fun _ _ _ h => h) (Or.inl ⟨by rfl, ?_⟩) HS0 ?_
          rotate_left
          (intro w' hSw'; have ⟨_, _⟩ := hSw'; go_simp; try with_reducible rfl)
          try simp only [Act.put, List.setIfInBounds_toArray, List.set_cons_zero, List.set_cons_succ, List.getElem_toArray, List.getElem_cons_zero, List.getElem_cons_succ]
          refine wpAnyG_ready (rs := [7]) (by kernel_rfl) (by simp) ?_
          refine AllG.cons rfl (ph' := false) (by kernel_rfl) (fun K hK => ?_) AllG.nil
          go_simp
          go_at_call 27
          refine HPU.out.mono ?_
          rintro e w5 ⟨v5, rfl, hf5⟩
          rw [List.nil_append] at hf5
          have hcm5 := (hf5.kept.block CM (Array.getElem?_eq_some_iff.1 HCM0.out).1 (fun f => f)).trans HCM0.out
          refine hK.out _ _ (fun _ => ⟨hf5.kept.cell HS0.1 (fun f => f), HLEN.out w5 hcm5⟩) ?_
          clear hK K
          try simp only [Act.put, List.setIfInBounds_toArray, List.set_cons_zero, List.set_cons_succ, List.getElem_toArray, List.getElem_cons_zero, List.getElem_cons_succ]
          obtain ⟨v6, w6, hrun6, ho6, hg6, hb6, -⟩ := run_append_bytes w5 v5 u8 (uintB cl) (payB st.cs) hf5.own (HBD.out.keptF hf5.kept (fun _ _ f => f)) (by have h5 := HPL.out; have h6 := uintB_len cl 2 (by have := HCLL.out; omega) (by omega); omega)
          have ho6 : OwnB w6 v6 (recOf st.cs) := by rw [HREC.out]; exact ho6
          obtain ⟨pa, pc, rfl, -, -⟩ := ho6.form
          obtain ⟨pn, hpn⟩ : ∃ z, (recOf st.cs).length = z := ⟨_, rfl⟩
          rw [hpn] at hrun6 hb6
          have hk56 : Kept (fun k => v5.ownBlock = some k) w5 w6 := Kept.grown (F := fun k => v5.ownBlock = some k) (Kept.refl _ _) hg6 (fun k hk _ => hk)
          have hk6 : Kept (fun _ => False) wr.drew w6 := hf5.kept.more hk56 (fun i e => hf5.new i e)
          have hcm6 := (hk6.block CM (Array.getElem?_eq_some_iff.1 HCM0.out).1 (fun f => f)).trans HCM0.out
          refine wpAnyG_ready (rs := [9]) (by kernel_rfl) (by simp) ?_
          refine AllG.cons rfl (ph' := false) (by kernel_rfl) (fun K hK => ?_) AllG.nil
          refine step_append_run rfl (.tmp 103) (.tmp 104) #[33, 33] rfl _ _ _ _ rfl rfl hrun6 ?_
          refine hK.out _ _ (fun _ => ⟨hk6.cell HS0.1 (fun f => f), HLEN.out w6 hcm6⟩) ?_
          clear hK K
          try simp only [Act.put, List.setIfInBounds_toArray, List.set_cons_zero, List.set_cons_succ, List.getElem_toArray, List.getElem_cons_zero, List.getElem_cons_succ]
          have hkw6 := HKD.out.more hk6 (fun _ f => f.elim)
          have hJ6 := HH.out.jour.keptN hkw6
          have hp6 := ho6.isB
          have hpl : (recOf st.cs).length ≤ 210003 := by
            rw [HREC.out, List.length_append]
            have h5 := HPL.out; have h6 := uintB_len cl 2 (by have := HCLL.out; omega) (by omega); omega
          have hrl := recB_length (recOf st.cs) (by omega)
          have hsep : ∀ g, (Value.slice pa pn pc).ownBlock = some g → ¬ diskF b m es g := fun g e hd => by
            have h7 := HH.out.jour.disk.lt g hd
            have h8 : w.heap.size ≤ wr.drew.heap.size := HKD.out.size
            rcases hb6 g e with h9 | ⟨h9, -⟩
            · have := hf5.new g h9; omega
            · have := hf5.kept.size; omega
          have HAP := Lib.hid (jappend_any hJ6 hcut pa pc (recOf st.cs) hp6 (by rw [hpn]; exact hsep) (by omega) (by omega) (by omega) hb3 hw)
          rw [hpn] at HAP
          obtain ⟨⟨er, D', J'⟩, hput⟩ : ∃ q, J.put D (recOf st.cs) = q := ⟨_, rfl⟩
          rw [hput] at HAP hO2
          simp only at HAP hO2
          have HKW6 := Lib.hid hkw6
          have HCM6 := Lib.hid hcm6
          have HS6 := And.intro (hk6.cell HS0.1 (fun f => f)) (HLEN.out w6 hcm6)
          clear hput hp6 hpl hrl hsep hJ6 hkw6 ho6 hg6 hb6 hrun6 hf5 hcm5 hk56 hk6 hcm6 hpn
          refine wpAnyG_ready (rs := [10]) (by kernel_rfl) (by simp) ?_
          refine AllG.cons rfl (ph' := false) (by kernel_rfl) (fun K hK => ?_) AllG.nil
          go_simp
          go_at_call 26
          refine HAP.out.mono ?_
          rintro e w7 ⟨rfl, es7, clk7, av7, pv7, hJ7, hF7, hK7⟩
          obtain ⟨ro1, ro2, ro3⟩ := HH.out.out
          have hcm7 : w7.heap[CM]? = some (.map ces cclk) := (hK7.block CM (Array.getElem?_eq_some_iff.1 HCM6.out).1 (fun e => by have h8 := HH.out.jour.lt CM e; have := HCM.out; omega)).trans HCM6.out
          have HS7 := And.intro (hK7.cell HS6.1 ro1) (HLEN.out w7 hcm7)
          refine hK.out _ _ (fun _ => HS7) ?_
          clear hK K
          try simp only [Act.put, List.setIfInBounds_toArray, List.set_cons_zero, List.set_cons_succ, List.getElem_toArray, List.getElem_cons_zero, List.getElem_cons_succ]
          refine wpAnyG_takeU (i := 11) (v := ?_) rfl (by kernel_rfl) (by kernel_rfl) (by kernel_rfl) (by kernel_rfl) (fun _ _ _ h => h) (Or.inl ⟨by rfl, ?_⟩) (fun _ => HS7) ?_
          rotate_left
          (intro w' hSw'; go_simp; try with_reducible rfl)
          try simp only [Act.put, List.setIfInBounds_toArray, List.set_cons_zero, List.set_cons_succ, List.getElem_toArray, List.getElem_cons_zero, List.getElem_cons_succ]
          refine wpAnyG_done (by kernel_rfl) ?_ _
          have hkw7 : Kept (jourF j b m es av pv) w w7 := (HKW6.out.mono (fun _ _ f => f.elim)).trans hK7 (fun _ _ e => e)
          have hr7 := (hkw7.block r (Array.getElem?_eq_some_iff.1 HH.out.refs.cell).1 ro1).trans HH.out.refs.cell
          have hi7 := HH.out.refs.ids.kept hkw7 ro2
          have HF7 : Hid (∀ k, jourF j b m es7 av7 pv7 k → jourF j b m es av pv k ∨ w.heap.size ≤ k) := Lib.hid (fun k hk => (hF7 k hk).imp id (fun h => Nat.le_trans HKW6.out.size h))
          have HK7 : Hid (Kept (fun k => k = im ∨ jourF j b m es av pv k) w w7) := Lib.hid (hkw7.mono (fun _ _ e => .inr e))
          have HJ7 := Lib.hid hJ7
          have HR7 := Lib.hid hr7
          have HI7 := Lib.hid hi7
          have HC7 : Hid (IdsAt w7 CM ces cclk st.cs) := Lib.hid ⟨hcm7, HC.out.stamped, HC.out.rel, HC.out.nodup⟩
          clear hJ7 hF7 hK7 ro1 ro2 ro3 hcm7 HS7 HS6 hkw7 hr7 hi7 HS0
          by_cases he0 : er = 0
          · have he0b : (er != 0) = false := by simp [he0]
            have hO : Hid (O = (0, D', J', layL S st.cs)) := Lib.hid (by rw [hO2.out, if_pos he0])
            clear he0
            have HLAY := Lib.hid (lay_any HR7.out HI7.out HC7.out (by have := HCM.out; have := HH.out.refs.ids.lt; omega))
            go_wp2_with fail
            refine HLAY.out.mono ?_
            rintro e w8 ⟨rfl, ies8, iclk8, l8, hI8, hp8, hk8⟩
            go_wp2
            go_ret
            rw [hO.out]
            have hnj : ∀ k, jourF j b m es7 av7 pv7 k → ¬ k = im := fun k hk e => by
              rcases HF7.out k hk with h9 | h9
              · exact HH.out.out.2.1 (e ▸ h9)
              · have := HH.out.refs.ids.lt; omega
            refine ⟨rfl, ies8, iclk8, es7, clk7, av7, pv7, l8, ⟨⟨(hk8.block r (Array.getElem?_eq_some_iff.1 HR7.out).1 HH.out.out.2.2).trans HR7.out, hI8, hp8.trans (layL_perm2 HH.out.refs.ids.nodup HC.out.nodup HH.out.refs.perm)⟩, HJ7.out.kept hk8 hnj, HH.out.apart⟩, HF7.out, HK7.out.trans hk8 (fun _ _ e => .inl e)⟩
          · have he0b : (er != 0) = true := by simp [he0]
            have hO : Hid (O = (er, D', J', S)) := Lib.hid (by rw [hO2.out, if_neg he0])
            clear he0
            go_wp2_with fail
            go_ret
            rw [hO.out]
            exact ⟨rfl, ies, iclk, es7, clk7, av7, pv7, S0, ⟨⟨HR7.out, HI7.out, HH.out.refs.perm⟩, HJ7.out, HH.out.apart⟩, HF7.out, HK7.out⟩
    · have hlt : (k : Int) < (n : Int) := by omega
      obtain ⟨ga, go, rfl, hga, hx0, hx1⟩ := (HL.out.keptN HK.out).at (k := k) (by rw [HN.out]; omega)
      have hld : l.drop k = l[k]'(by rw [HN.out]; omega) :: l.drop (k + 1) := List.drop_eq_getElem_cons _
      have hidk := HID.out (l[k]'(by rw [HN.out]; omega)) (List.getElem_mem _)
      rw [hld] at HG
      clear hld
      generalize (l[k]'(by rw [HN.out]; omega)) = p at *
      obtain ⟨s, id⟩ := p
      simp only at hx0 hx1 hidk
      obtain ⟨wA, hwA, hkA, hsA, hbA⟩ := ref_new wr s id
      have hrA := ((HK.out.more hkA (fun _ f => f.elim)).block r (Array.getElem?_eq_some_iff.1 HH.out.refs.cell).1 (fun f => f)).trans HH.out.refs.cell
      have HIA := Lib.hid (HH.out.refs.ids.keptF (HK.out.more hkA (fun _ f => f.elim)))
      have cA0 : wA.cell? ⟨r, 0, none⟩ = some (.map (some im)) := by simp [World.cell?, hrA]
      have x0 : wA.cell? ⟨wr.heap.size, 0, none⟩ = some (.string s) := by simp [World.cell?, hbA]
      have x1 : wA.cell? ⟨wr.heap.size, 1, none⟩ = some (.int .u64 id) := by simp [World.cell?, hbA]
      have hlk := fun n => HIA.out.look s true (wA.drewN n) HIA.out.map
      simp only [if_true] at hlk
      rw [HGP.out s] at hlk
      have HBA := Lib.hid hbA
      have HKA := Lib.hid hkA
      clear hrA hbA hkA
      go_wp2_with fail
      go_quiet (fail)
      obtain ⟨wB, hwB⟩ : ∃ W, wA.drewN nq = W := ⟨_, rfl⟩
      rw [hwB]
      have HKB : Hid (Kept (fun _ => False) wr wB) := Lib.hid (by rw [← hwB]; exact HKA.out.drewN nq)
      have y0 : wB.cell? ⟨wr.heap.size, 0, none⟩ = some (.string s) := by rw [← hwB]; exact x0
      have y1 : wB.cell? ⟨wr.heap.size, 1, none⟩ = some (.int .u64 id) := by rw [← hwB]; exact x1
      clear hwB hlk x0 x1 cA0 HBA hwA hx0 hx1
      have HMY := Lib.hid (refsMay_any s wB)
      rw [scanGo_step] at HG
      go_wp2_with fail
      refine HMY.out.mono ?_
      rintro e w2 ⟨rfl, hk2⟩
      have HK2 : Hid (Kept (fun _ => False) w w2) := Lib.hid ((HK.out.more HKB.out (fun _ f => f.elim)).more hk2 (fun _ f => f.elim))
      have HKR2 : Hid (Kept (fun _ => False) wr w2) := Lib.hid (HKB.out.more hk2 (fun _ f => f.elim))
      have z0 : w2.cell? ⟨wr.heap.size, 0, none⟩ = some (.string s) := hk2.cell y0 (fun f => f)
      have z1 : w2.cell? ⟨wr.heap.size, 1, none⟩ = some (.int .u64 id) := hk2.cell y1 (fun f => f)
      have HM2 : Hid (MetAt w2 w.heap.size mes mclk st.met) := Lib.hid (HM.out.kept HKR2.out (fun f => f))
      have HC2 := Lib.hid (HC.out.keptF HKR2.out)
      have HB2 := Lib.hid (HB.out.keptF HKR2.out (fun _ _ f => f))
      have hlm := HM2.out.look s w2 HM2.out.map
      clear hk2 y0 y1 HMY HM HC HB hga
      by_cases h1 : mayOf s = 0
      · have h1b : (mayOf s != 0) = false := by simp [h1]
        by_cases h2 : (getA s st.met).getD false = true
        · rw [h2] at hlm
          go_wp2_with fail
          have hP : (5 : Int) ≠ 0 := by decide
          have HG := Lib.hid (HG.out)
          rw [if_neg (by simp [h1]), if_pos h2] at HG
          go_ret
          have hO : O = (5, D, J, S) := by rw [HR.out, ← HG.out]; unfold setOf; simp only; rw [if_pos hP]
          rw [hO]
          exact ⟨rfl, ies, iclk, es, clock, av, pv, S0, HH.out.keptN (HK2.out), fun k hk => .inl hk, (HK2.out).mono (fun _ _ f => f.elim)⟩
        · have h2b : (getA s st.met).getD false = false := by simpa using h2
          rw [h2b] at hlm
          obtain ⟨hf1, hf2⟩ := HO.out.1.fresh HS.out h2
          rw [if_neg (by simp [h1]), if_neg h2] at HG
          have hOs : Hid (∀ (h3 : ¬ (id = 0 ∧ getA s S = none)), ScanOk S ⟨putA s true st.met, if (getA s S).getD 0 = id then st.cs else st.cs ++ [(s, id)]⟩) := Lib.hid (fun h3 => HO.out.1.step (c := (s, id)) h1 h2 h3)
          have HF := Lib.hid (And.intro hf1 hf2)
          clear hf1 hf2
          cases hgs : getA s S with
          | none =>
            rw [hgs] at hOs HG HF
            by_cases h3 : id = 0
            · have h3b : ((id : Int) == 0) = true := by simp [h3]
              simp only [hgs, Option.getD_none, Option.isSome_none]
              rw [if_pos ⟨h3, rfl⟩] at HG
              clear h3
              go_wp2_with fail
              have hP : (4 : Int) ≠ 0 := by decide
              go_ret
              have hO : O = (4, D, J, S) := by rw [HR.out, ← HG.out]; unfold setOf; simp only; rw [if_pos hP]
              rw [hO]
              exact ⟨rfl, ies, iclk, es, clock, av, pv, S0, HH.out.keptN (HK2.out), fun k hk => .inl hk, (HK2.out).mono (fun _ _ f => f.elim)⟩
            · have h3b : ((id : Int) == 0) = false := by simp; omega
              have h3c : ((0 : Int) == (id : Int)) = false := by simp; omega
              simp only [hgs, Option.getD_none, Option.isSome_none]
              rw [if_neg (fun e => h3 e.1)] at HG
              simp only [Option.getD_none] at HG hOs
              rw [if_neg (Ne.symm h3)] at HG hOs
              have hOs := Lib.hid (hOs.out (fun e => h3 e.1))
              obtain ⟨mes2, mclk2, hrunM, hidM⟩ := HM2.out.put s true
              have hdM := hrunM w2 HM2.out.map
              have hM3 := hidM w2 HM2.out.map
              obtain ⟨w3, hw3⟩ : ∃ W, setBlock w2 w.heap.size (.map mes2 mclk2) = W := ⟨_, rfl⟩
              have hk3 : Kept (· = w.heap.size) w2 w3 := by rw [← hw3]; exact (Kept.refl (· = w.heap.size) w2).setBlock (fun _ => rfl) _
              rw [hw3] at hdM hM3
              have HMN := Lib.hid hM3
              have HC3 : Hid (IdsAt w3 CM ces cclk st.cs) := Lib.hid (HC2.out.kept hk3 (by have := HCM.out; omega))
              have HB3 : Hid (IsB w3 u8 (payB st.cs)) := Lib.hid (HB2.out.keptS hk3 (fun hne g e e2 => by have := HBM.out hne g e; omega))
              have HK3 : Hid (Kept (fun _ => False) w w3) := Lib.hid (HK2.out.more hk3 (fun i (e : i = w.heap.size) => by omega))
              have HKR3 : Hid (Kept (· = w.heap.size) wr w3) := Lib.hid ((HKR2.out.mono (fun _ _ f => f.elim)).trans hk3 (fun _ _ e => e))
              have q0 : w3.cell? ⟨wr.heap.size, 0, none⟩ = some (.string s) := hk3.cell z0 (by have := HW.out; show ¬ wr.heap.size = w.heap.size; omega)
              have q1 : w3.cell? ⟨wr.heap.size, 1, none⟩ = some (.int .u64 id) := hk3.cell z1 (by have := HW.out; show ¬ wr.heap.size = w.heap.size; omega)
              have HWN : Hid (w.heap.size + 2 ≤ w3.heap.size) := Lib.hid (Nat.le_trans HW.out HKR3.out.size)
              clear hrunM hidM hM3 hw3 hk3
              obtain ⟨ces2, cclk2, hrunC, hidC⟩ := HC3.out.put s id
              have hdC := hrunC w3 HC3.out.map
              have hC4 := hidC w3 HC3.out.map
              rw [putA_of_none HF.out.1] at hC4
              obtain ⟨w4, hw4⟩ : ∃ W, setBlock w3 CM (.map ces2 cclk2) = W := ⟨_, rfl⟩
              have hk4 : Kept (· = CM) w3 w4 := by rw [← hw4]; exact (Kept.refl (· = CM) w3).setBlock (fun _ => rfl) _
              rw [hw4] at hdC hC4
              have HC4 := Lib.hid hC4
              have HM4 : Hid (MetAt w4 w.heap.size mes2 mclk2 (putA s true st.met)) := Lib.hid (HMN.out.kept hk4 (by have := HCM.out; omega))
              have HB4 : Hid (IsB w4.drew u8 (payB st.cs)) := Lib.hid ((HB3.out.keptS hk4 (fun hne g e e2 => by have := HBM.out hne g e; have := HCM.out; omega)).keptF (Kept.refl _ w4).drew (fun _ _ f => f))
              have HK4 : Hid (Kept (fun _ => False) w w4.drew) := Lib.hid ((HK3.out.more hk4 (fun i (e : i = CM) => by have := HCM.out; omega)).drew)
              have p0 : w4.drew.cell? ⟨wr.heap.size, 0, none⟩ = some (.string s) := hk4.cell q0 (by have := HW.out; have := HCM.out; show ¬ wr.heap.size = CM; omega)
              have p1 : w4.drew.cell? ⟨wr.heap.size, 1, none⟩ = some (.int .u64 id) := hk4.cell q1 (by have := HW.out; have := HCM.out; show ¬ wr.heap.size = CM; omega)
              have HSS : Hid (s.size ≤ 200) := Lib.hid (path_size h1)
              have HPL : Hid ((payB st.cs).length ≤ 210000) := Lib.hid (by
                have h5 := payB_len st.cs (fun c hc => path_size (HO.out.1.may c hc))
                have h6 := HO.out.2
                have h7 : st.cs.length * 210 ≤ 1000 * 210 := Nat.mul_le_mul_right _ (by omega)
                omega)
              have HPT := Lib.hid (putText_any w4.drew u8 (payB st.cs) s (by have := HSS.out; omega) HB4.out (by have := HPL.out; omega))
              have HWX : Hid (w.heap.size + 2 ≤ w4.drew.heap.size) := Lib.hid (Nat.le_trans HWN.out hk4.size)
              have HCL : Hid (st.cs.length ≤ k) := Lib.hid HO.out.2
              have HON : Hid (ScanOk S ⟨putA s true st.met, st.cs ++ [(s, id)]⟩ ∧ (st.cs ++ [(s, id)]).length ≤ k + 1) := Lib.hid ⟨hOs.out, by have := HO.out.2; simp; omega⟩
              have HGN : Hid (scanGo S (l.drop (k + 1)) ⟨putA s true st.met, st.cs ++ [(s, id)]⟩ = R) := HG
              clear hrunC hidC hC4 hw4 hk4 HMN HWN h1
              go_wp2_with fail
              go_region_held (fun w' => w'.cell? ⟨wr.heap.size, 0, none⟩ = some (.string s) ∧ w'.cell? ⟨wr.heap.size, 1, none⟩ = some (.int .u64 id))
                (first | exact ⟨p0, p1⟩ | exact hS5 | exact hS6)
                (first | (go_at_call 25; refine HPT.out.mono ?_; rintro e' w5 ⟨v5, rfl, hf5⟩; have hS5 := And.intro (hf5.kept.cell p0 (fun f => f)) (hf5.kept.cell p1 (fun f => f))) | (go_at_call 24; refine (putWord_any w5 v5 _ id hf5.own.isB (by have h5 := HPL.out; have h6 := textB_len s HSS.out; rw [List.length_append]; omega)).mono ?_; rintro e' w6 ⟨v6, rfl, hf6⟩; have hS6 := And.intro (hf6.kept.cell hS5.1 (fun f => f)) (hf6.kept.cell hS5.2 (fun f => f))))
              have hk46 : Kept (fun _ => False) w4.drew w6 := hf5.kept.more hf6.kept (fun _ f => f.elim)
              have HMN : Hid (MetAt w6 w.heap.size mes2 mclk2 (putA s true st.met)) := Lib.hid (HM4.out.kept (((Kept.refl (fun _ => False) w4).drew).more hk46 (fun _ f => f.elim)) (fun f => f))
              have HCN : Hid (IdsAt w6 CM ces2 cclk2 (st.cs ++ [(s, id)])) := Lib.hid (HC4.out.keptF (((Kept.refl (fun _ => False) w4).drew).more hk46 (fun _ f => f.elim)))
              have HBN : Hid (IsB w6 v6 (payB (st.cs ++ [(s, id)]))) := Lib.hid (by rw [payB_snoc, ← List.append_assoc]; exact hf6.own.isB)
              have HBMN : Hid (payB (st.cs ++ [(s, id)]) ≠ [] → ∀ g, v6.ownBlock = some g → w.heap.size + 2 ≤ g) := Lib.hid (fun _ g e => by have h5 := hf6.new g e; have h6 := hf5.kept.size; have h7 := HWX.out; omega)
              have HKN : Hid (Kept (fun _ => False) w w6) := Lib.hid (HK4.out.more hk46 (fun _ f => f.elim))
              have HWN : Hid (w.heap.size + 2 ≤ w6.heap.size) := Lib.hid (Nat.le_trans HWX.out hk46.size)
              obtain ⟨p0, p1⟩ := hS6
              clear hS5 hf5 hf6 hk46 HPT HB4 HB3 HM4 HC4 q0 q1
              have HL2 : Hid ((layL S (st.cs ++ [(s, id)])).length = (layL S st.cs).length + 1) := Lib.hid (by rw [layL_snoc, length_layOne, HF.out.2]; simp [h3])
              have hLb : (layL S st.cs).length ≤ 2000 := by have h5 := layL_len S st.cs; have h6 := HCL.out; omega
              clear h3
              go_wp2_with fail
              go_roundg (gk - 1)
              case measure => omega
              case rel => exact ⟨k + 1, ⟨putA s true st.met, st.cs ++ [(s, id)]⟩, mes2, mclk2, _, _, by omega, by go_num, by rw [HL2.out]; simp, HGN, HON, HMN, HCN, HBN, HBMN, HKN, HWN⟩
          | some idS =>
            rw [hgs] at hOs HG HF
            rw [if_neg (fun e => by cases e.2)] at HG
            simp only [hgs, Option.getD_some, Option.isSome_some]
            have hOs := Lib.hid (hOs.out (fun e => by cases e.2))
            simp only [Option.getD_some] at HG hOs
            by_cases h4 : idS = id
            · have h4b : ((idS : Int) == (id : Int)) = true := by simp [h4]
              rw [if_pos h4] at HG hOs
              have hOs := Lib.hid (hOs.out)
              clear h4
              obtain ⟨mes2, mclk2, hrunM, hidM⟩ := HM2.out.put s true
              have hdM := hrunM w2 HM2.out.map
              have hM3 := hidM w2 HM2.out.map
              obtain ⟨w3, hw3⟩ : ∃ W, setBlock w2 w.heap.size (.map mes2 mclk2) = W := ⟨_, rfl⟩
              have hk3 : Kept (· = w.heap.size) w2 w3 := by rw [← hw3]; exact (Kept.refl (· = w.heap.size) w2).setBlock (fun _ => rfl) _
              rw [hw3] at hdM hM3
              have HMN := Lib.hid hM3
              have HC3 : Hid (IdsAt w3 CM ces cclk st.cs) := Lib.hid (HC2.out.kept hk3 (by have := HCM.out; omega))
              have HB3 : Hid (IsB w3 u8 (payB st.cs)) := Lib.hid (HB2.out.keptS hk3 (fun hne g e e2 => by have := HBM.out hne g e; omega))
              have HK3 : Hid (Kept (fun _ => False) w w3) := Lib.hid (HK2.out.more hk3 (fun i (e : i = w.heap.size) => by omega))
              have HKR3 : Hid (Kept (· = w.heap.size) wr w3) := Lib.hid ((HKR2.out.mono (fun _ _ f => f.elim)).trans hk3 (fun _ _ e => e))
              have q0 : w3.cell? ⟨wr.heap.size, 0, none⟩ = some (.string s) := hk3.cell z0 (by have := HW.out; show ¬ wr.heap.size = w.heap.size; omega)
              have q1 : w3.cell? ⟨wr.heap.size, 1, none⟩ = some (.int .u64 id) := hk3.cell z1 (by have := HW.out; show ¬ wr.heap.size = w.heap.size; omega)
              have HWN : Hid (w.heap.size + 2 ≤ w3.heap.size) := Lib.hid (Nat.le_trans HW.out HKR3.out.size)
              clear hrunM hidM hM3 hw3 hk3
              have HGN : Hid (scanGo S (l.drop (k + 1)) ⟨putA s true st.met, st.cs⟩ = R) := HG
              have HON : Hid (ScanOk S ⟨putA s true st.met, st.cs⟩ ∧ st.cs.length ≤ k + 1) := Lib.hid ⟨hOs.out, by have := HO.out.2; omega⟩
              have HCN := HC3
              have HBN := HB3
              have HKN := HK3
              have HBMN := HBM
              clear h1
              by_cases h3 : id = 0
              · have h3b : ((id : Int) == 0) = true := by simp [h3]
                clear h3
                go_wp2_with fail
                go_roundg (gk - 1)
                case measure => omega
                case rel => exact ⟨k + 1, ⟨putA s true st.met, st.cs⟩, mes2, mclk2, _, _, by omega, by go_num, rfl, HGN, HON, HMN, HCN, HBN, HBMN, HKN, HWN⟩
              · have h3b : ((id : Int) == 0) = false := by simp; omega
                clear h3
                go_wp2_with fail
                go_roundg (gk - 1)
                case measure => omega
                case rel => exact ⟨k + 1, ⟨putA s true st.met, st.cs⟩, mes2, mclk2, _, _, by omega, by go_num, rfl, HGN, HON, HMN, HCN, HBN, HBMN, HKN, HWN⟩
            · have h4b : ((idS : Int) == (id : Int)) = false := by simp; omega
              rw [if_neg h4] at HG hOs
              clear h4
              obtain ⟨mes2, mclk2, hrunM, hidM⟩ := HM2.out.put s true
              have hdM := hrunM w2 HM2.out.map
              have hM3 := hidM w2 HM2.out.map
              obtain ⟨w3, hw3⟩ : ∃ W, setBlock w2 w.heap.size (.map mes2 mclk2) = W := ⟨_, rfl⟩
              have hk3 : Kept (· = w.heap.size) w2 w3 := by rw [← hw3]; exact (Kept.refl (· = w.heap.size) w2).setBlock (fun _ => rfl) _
              rw [hw3] at hdM hM3
              have HMN := Lib.hid hM3
              have HC3 : Hid (IdsAt w3 CM ces cclk st.cs) := Lib.hid (HC2.out.kept hk3 (by have := HCM.out; omega))
              have HB3 : Hid (IsB w3 u8 (payB st.cs)) := Lib.hid (HB2.out.keptS hk3 (fun hne g e e2 => by have := HBM.out hne g e; omega))
              have HK3 : Hid (Kept (fun _ => False) w w3) := Lib.hid (HK2.out.more hk3 (fun i (e : i = w.heap.size) => by omega))
              have HKR3 : Hid (Kept (· = w.heap.size) wr w3) := Lib.hid ((HKR2.out.mono (fun _ _ f => f.elim)).trans hk3 (fun _ _ e => e))
              have q0 : w3.cell? ⟨wr.heap.size, 0, none⟩ = some (.string s) := hk3.cell z0 (by have := HW.out; show ¬ wr.heap.size = w.heap.size; omega)
              have q1 : w3.cell? ⟨wr.heap.size, 1, none⟩ = some (.int .u64 id) := hk3.cell z1 (by have := HW.out; show ¬ wr.heap.size = w.heap.size; omega)
              have HWN : Hid (w.heap.size + 2 ≤ w3.heap.size) := Lib.hid (Nat.le_trans HW.out HKR3.out.size)
              clear hrunM hidM hM3 hw3 hk3
              by_cases h3 : id = 0
              · have h3b : ((id : Int) == 0) = true := by simp [h3]
                have HL2 : Hid ((layL S (st.cs ++ [(s, id)])).length = (layL S st.cs).length - 1 ∧ 1 ≤ (layL S st.cs).length) := Lib.hid (by
                  rw [layL_snoc, length_layOne, HF.out.2]
                  refine ⟨by simp [h3], ?_⟩
                  have h8 := getA_mem HF.out.2
                  exact List.length_pos_of_mem h8)
                have hLb : (layL S st.cs).length ≤ 2000 := by have h5 := layL_len S st.cs; have h6 := HO.out.2; omega
                have hL1 : 1 ≤ (layL S st.cs).length := HL2.out.2
                clear h3
                obtain ⟨ces2, cclk2, hrunC, hidC⟩ := HC3.out.put s id
                have hdC := hrunC w3 HC3.out.map
                have hC4 := hidC w3 HC3.out.map
                rw [putA_of_none HF.out.1] at hC4
                obtain ⟨w4, hw4⟩ : ∃ W, setBlock w3 CM (.map ces2 cclk2) = W := ⟨_, rfl⟩
                have hk4 : Kept (· = CM) w3 w4 := by rw [← hw4]; exact (Kept.refl (· = CM) w3).setBlock (fun _ => rfl) _
                rw [hw4] at hdC hC4
                have HC4 := Lib.hid hC4
                have HM4 : Hid (MetAt w4 w.heap.size mes2 mclk2 (putA s true st.met)) := Lib.hid (HMN.out.kept hk4 (by have := HCM.out; omega))
                have HB4 : Hid (IsB w4.drew u8 (payB st.cs)) := Lib.hid ((HB3.out.keptS hk4 (fun hne g e e2 => by have := HBM.out hne g e; have := HCM.out; omega)).keptF (Kept.refl _ w4).drew (fun _ _ f => f))
                have HK4 : Hid (Kept (fun _ => False) w w4.drew) := Lib.hid ((HK3.out.more hk4 (fun i (e : i = CM) => by have := HCM.out; omega)).drew)
                have p0 : w4.drew.cell? ⟨wr.heap.size, 0, none⟩ = some (.string s) := hk4.cell q0 (by have := HW.out; have := HCM.out; show ¬ wr.heap.size = CM; omega)
                have p1 : w4.drew.cell? ⟨wr.heap.size, 1, none⟩ = some (.int .u64 id) := hk4.cell q1 (by have := HW.out; have := HCM.out; show ¬ wr.heap.size = CM; omega)
                have HSS : Hid (s.size ≤ 200) := Lib.hid (path_size h1)
                have HPL : Hid ((payB st.cs).length ≤ 210000) := Lib.hid (by
                  have h5 := payB_len st.cs (fun c hc => path_size (HO.out.1.may c hc))
                  have h6 := HO.out.2
                  have h7 : st.cs.length * 210 ≤ 1000 * 210 := Nat.mul_le_mul_right _ (by omega)
                  omega)
                have HPT := Lib.hid (putText_any w4.drew u8 (payB st.cs) s (by have := HSS.out; omega) HB4.out (by have := HPL.out; omega))
                have HWX : Hid (w.heap.size + 2 ≤ w4.drew.heap.size) := Lib.hid (Nat.le_trans HWN.out hk4.size)
                have HCL : Hid (st.cs.length ≤ k) := Lib.hid HO.out.2
                have HON : Hid (ScanOk S ⟨putA s true st.met, st.cs ++ [(s, id)]⟩ ∧ (st.cs ++ [(s, id)]).length ≤ k + 1) := Lib.hid ⟨hOs.out, by have := HO.out.2; simp; omega⟩
                have HGN : Hid (scanGo S (l.drop (k + 1)) ⟨putA s true st.met, st.cs ++ [(s, id)]⟩ = R) := HG
                clear hrunC hidC hC4 hw4 hk4 HMN HWN h1
                go_wp2_with fail
                go_region_held (fun w' => w'.cell? ⟨wr.heap.size, 0, none⟩ = some (.string s) ∧ w'.cell? ⟨wr.heap.size, 1, none⟩ = some (.int .u64 id))
                  (first | exact ⟨p0, p1⟩ | exact hS5 | exact hS6)
                  (first | (go_at_call 25; refine HPT.out.mono ?_; rintro e' w5 ⟨v5, rfl, hf5⟩; have hS5 := And.intro (hf5.kept.cell p0 (fun f => f)) (hf5.kept.cell p1 (fun f => f))) | (go_at_call 24; refine (putWord_any w5 v5 _ id hf5.own.isB (by have h5 := HPL.out; have h6 := textB_len s HSS.out; rw [List.length_append]; omega)).mono ?_; rintro e' w6 ⟨v6, rfl, hf6⟩; have hS6 := And.intro (hf6.kept.cell hS5.1 (fun f => f)) (hf6.kept.cell hS5.2 (fun f => f))))
                have hk46 : Kept (fun _ => False) w4.drew w6 := hf5.kept.more hf6.kept (fun _ f => f.elim)
                have HMN : Hid (MetAt w6 w.heap.size mes2 mclk2 (putA s true st.met)) := Lib.hid (HM4.out.kept (((Kept.refl (fun _ => False) w4).drew).more hk46 (fun _ f => f.elim)) (fun f => f))
                have HCN : Hid (IdsAt w6 CM ces2 cclk2 (st.cs ++ [(s, id)])) := Lib.hid (HC4.out.keptF (((Kept.refl (fun _ => False) w4).drew).more hk46 (fun _ f => f.elim)))
                have HBN : Hid (IsB w6 v6 (payB (st.cs ++ [(s, id)]))) := Lib.hid (by rw [payB_snoc, ← List.append_assoc]; exact hf6.own.isB)
                have HBMN : Hid (payB (st.cs ++ [(s, id)]) ≠ [] → ∀ g, v6.ownBlock = some g → w.heap.size + 2 ≤ g) := Lib.hid (fun _ g e => by have h5 := hf6.new g e; have h6 := hf5.kept.size; have h7 := HWX.out; omega)
                have HKN : Hid (Kept (fun _ => False) w w6) := Lib.hid (HK4.out.more hk46 (fun _ f => f.elim))
                have HWN : Hid (w.heap.size + 2 ≤ w6.heap.size) := Lib.hid (Nat.le_trans HWX.out hk46.size)
                obtain ⟨p0, p1⟩ := hS6
                clear hS5 hf5 hf6 hk46 HPT HB4 HB3 HM4 HC4 q0 q1
                go_wp2_with fail
                go_roundg (gk - 1)
                case measure => omega
                case rel => exact ⟨k + 1, ⟨putA s true st.met, st.cs ++ [(s, id)]⟩, mes2, mclk2, _, _, by omega, by go_num, by rw [HL2.out.1]; congr 1; omega, HGN, HON, HMN, HCN, HBN, HBMN, HKN, HWN⟩
              · have h3b : ((id : Int) == 0) = false := by simp; omega
                have HL2 : Hid ((layL S (st.cs ++ [(s, id)])).length = (layL S st.cs).length) := Lib.hid (by
                  rw [layL_snoc, length_layOne, HF.out.2]
                  simp [h3])
                clear h3
                obtain ⟨ces2, cclk2, hrunC, hidC⟩ := HC3.out.put s id
                have hdC := hrunC w3 HC3.out.map
                have hC4 := hidC w3 HC3.out.map
                rw [putA_of_none HF.out.1] at hC4
                obtain ⟨w4, hw4⟩ : ∃ W, setBlock w3 CM (.map ces2 cclk2) = W := ⟨_, rfl⟩
                have hk4 : Kept (· = CM) w3 w4 := by rw [← hw4]; exact (Kept.refl (· = CM) w3).setBlock (fun _ => rfl) _
                rw [hw4] at hdC hC4
                have HC4 := Lib.hid hC4
                have HM4 : Hid (MetAt w4 w.heap.size mes2 mclk2 (putA s true st.met)) := Lib.hid (HMN.out.kept hk4 (by have := HCM.out; omega))
                have HB4 : Hid (IsB w4.drew u8 (payB st.cs)) := Lib.hid ((HB3.out.keptS hk4 (fun hne g e e2 => by have := HBM.out hne g e; have := HCM.out; omega)).keptF (Kept.refl _ w4).drew (fun _ _ f => f))
                have HK4 : Hid (Kept (fun _ => False) w w4.drew) := Lib.hid ((HK3.out.more hk4 (fun i (e : i = CM) => by have := HCM.out; omega)).drew)
                have p0 : w4.drew.cell? ⟨wr.heap.size, 0, none⟩ = some (.string s) := hk4.cell q0 (by have := HW.out; have := HCM.out; show ¬ wr.heap.size = CM; omega)
                have p1 : w4.drew.cell? ⟨wr.heap.size, 1, none⟩ = some (.int .u64 id) := hk4.cell q1 (by have := HW.out; have := HCM.out; show ¬ wr.heap.size = CM; omega)
                have HSS : Hid (s.size ≤ 200) := Lib.hid (path_size h1)
                have HPL : Hid ((payB st.cs).length ≤ 210000) := Lib.hid (by
                  have h5 := payB_len st.cs (fun c hc => path_size (HO.out.1.may c hc))
                  have h6 := HO.out.2
                  have h7 : st.cs.length * 210 ≤ 1000 * 210 := Nat.mul_le_mul_right _ (by omega)
                  omega)
                have HPT := Lib.hid (putText_any w4.drew u8 (payB st.cs) s (by have := HSS.out; omega) HB4.out (by have := HPL.out; omega))
                have HWX : Hid (w.heap.size + 2 ≤ w4.drew.heap.size) := Lib.hid (Nat.le_trans HWN.out hk4.size)
                have HCL : Hid (st.cs.length ≤ k) := Lib.hid HO.out.2
                have HON : Hid (ScanOk S ⟨putA s true st.met, st.cs ++ [(s, id)]⟩ ∧ (st.cs ++ [(s, id)]).length ≤ k + 1) := Lib.hid ⟨hOs.out, by have := HO.out.2; simp; omega⟩
                have HGN : Hid (scanGo S (l.drop (k + 1)) ⟨putA s true st.met, st.cs ++ [(s, id)]⟩ = R) := HG
                clear hrunC hidC hC4 hw4 hk4 HMN HWN h1
                go_wp2_with fail
                go_region_held (fun w' => w'.cell? ⟨wr.heap.size, 0, none⟩ = some (.string s) ∧ w'.cell? ⟨wr.heap.size, 1, none⟩ = some (.int .u64 id))
                  (first | exact ⟨p0, p1⟩ | exact hS5 | exact hS6)
                  (first | (go_at_call 25; refine HPT.out.mono ?_; rintro e' w5 ⟨v5, rfl, hf5⟩; have hS5 := And.intro (hf5.kept.cell p0 (fun f => f)) (hf5.kept.cell p1 (fun f => f))) | (go_at_call 24; refine (putWord_any w5 v5 _ id hf5.own.isB (by have h5 := HPL.out; have h6 := textB_len s HSS.out; rw [List.length_append]; omega)).mono ?_; rintro e' w6 ⟨v6, rfl, hf6⟩; have hS6 := And.intro (hf6.kept.cell hS5.1 (fun f => f)) (hf6.kept.cell hS5.2 (fun f => f))))
                have hk46 : Kept (fun _ => False) w4.drew w6 := hf5.kept.more hf6.kept (fun _ f => f.elim)
                have HMN : Hid (MetAt w6 w.heap.size mes2 mclk2 (putA s true st.met)) := Lib.hid (HM4.out.kept (((Kept.refl (fun _ => False) w4).drew).more hk46 (fun _ f => f.elim)) (fun f => f))
                have HCN : Hid (IdsAt w6 CM ces2 cclk2 (st.cs ++ [(s, id)])) := Lib.hid (HC4.out.keptF (((Kept.refl (fun _ => False) w4).drew).more hk46 (fun _ f => f.elim)))
                have HBN : Hid (IsB w6 v6 (payB (st.cs ++ [(s, id)]))) := Lib.hid (by rw [payB_snoc, ← List.append_assoc]; exact hf6.own.isB)
                have HBMN : Hid (payB (st.cs ++ [(s, id)]) ≠ [] → ∀ g, v6.ownBlock = some g → w.heap.size + 2 ≤ g) := Lib.hid (fun _ g e => by have h5 := hf6.new g e; have h6 := hf5.kept.size; have h7 := HWX.out; omega)
                have HKN : Hid (Kept (fun _ => False) w w6) := Lib.hid (HK4.out.more hk46 (fun _ f => f.elim))
                have HWN : Hid (w.heap.size + 2 ≤ w6.heap.size) := Lib.hid (Nat.le_trans HWX.out hk46.size)
                obtain ⟨p0, p1⟩ := hS6
                clear hS5 hf5 hf6 hk46 HPT HB4 HB3 HM4 HC4 q0 q1
                go_wp2_with fail
                go_roundg (gk - 1)
                case measure => omega
                case rel => exact ⟨k + 1, ⟨putA s true st.met, st.cs ++ [(s, id)]⟩, mes2, mclk2, _, _, by omega, by go_num, by rw [HL2.out], HGN, HON, HMN, HCN, HBN, HBMN, HKN, HWN⟩
      · have h1b : (mayOf s != 0) = true := by simp [h1]
        rw [if_pos h1] at HG
        go_wp2_with fail
        go_ret
        have hO : O = (mayOf s, D, J, S) := by rw [HR.out, ← HG.out]; unfold setOf; simp only; rw [if_pos h1]
        rw [hO]
        exact ⟨rfl, ies, iclk, es, clock, av, pv, S0, HH.out.keptN (HK2.out), fun k hk => .inl hk, (HK2.out).mono (fun _ _ f => f.elim)⟩
end Go.Proofs.YtjnhkepgoghogaaGreatDoor
