/- refs: where the names and ids lie; lay. -/
import Derived.Test.YtjnhkepgoghogaaDoorRsK
import Derived.Test.YtjnhkepgoghogaaDoorDiskF
import Derived.Test.YtjnhkepgoghogaaDoorIter
namespace Go.Proofs.YtjnhkepgoghogaaDoor
open Go.RowKit Go.ChangeMaps Go.MapKept
set_option linter.unusedSimpArgs false

def idR (v : Value) (n : Nat) : Prop := v = .int .u64 n
/-- A map from names to ids at block m. -/
structure IdsAt (w : World) (m : Nat) (es : Array MapEntry) (clock : Nat) (l : IdsL) : Prop where
  map : w.heap[m]? = some (.map es clock)
  stamped : Stamped es clock
  rel : RelM Value.string idR es.toList l
  nodup : NodupA l
theorem IdsAt.kept {w w' : World} {m : Nat} {es : Array MapEntry} {clock : Nat} {l : IdsL} (h : IdsAt w m es clock l) {G : Nat → Prop} (hk : Kept G w w') (hG : ¬ G m) : IdsAt w' m es clock l :=
  ⟨(hk.block m (Array.getElem?_eq_some_iff.1 h.map).1 hG).trans h.map, h.stamped, h.rel, h.nodup⟩
theorem IdsAt.lt {w : World} {m : Nat} {es : Array MapEntry} {clock : Nat} {l : IdsL} (h : IdsAt w m es clock l) : m < w.heap.size := (Array.getElem?_eq_some_iff.1 h.map).1
theorem IdsAt.size {w : World} {m : Nat} {es : Array MapEntry} {clock : Nat} {l : IdsL} (h : IdsAt w m es clock l) : es.size = l.length := by have := h.rel.length; simpa using this
theorem zero_id (w : World) : (zeroValue 46).run Tryd.prog w = .ok (.int .u64 0) w := by kernel_rfl
/-- A name is looked up. -/
theorem IdsAt.look {w : World} {m : Nat} {es : Array MapEntry} {clock : Nat} {l : IdsL} (h : IdsAt w m es clock l) (s : ByteArray) (ok : Bool) (w' : World) (hm : w'.heap[m]? = some (.map es clock)) :
    (Instr.lookup 43 (.map (some m)) (.string s) ok).run Tryd.prog w' = .ok (if ok then .tuple #[.int .u64 ((getA s l).getD 0 : Nat), .bool (getA s l).isSome] else .int .u64 ((getA s l).getD 0 : Nat)) w' := by
  obtain ⟨v, hrun, hv⟩ := run_lookup_rel (m := m) (clock := clock) (keyEnc_string Tryd.underlying9) Tryd.underlying43 zero_id h.rel s ok
  rw [hrun w' hm]
  rcases hv with ⟨h1, rfl⟩ | ⟨n, e, h1, h2, -⟩
  · rw [h1]; rfl
  · rw [h1]; unfold idR at h2; subst h2; rfl
/-- A name's id is put. -/
theorem IdsAt.put {w : World} {m : Nat} {es : Array MapEntry} {clock : Nat} {l : IdsL} (h : IdsAt w m es clock l) (s : ByteArray) (n : Nat) :
    ∃ es' clock', (∀ w' : World, w'.heap[m]? = some (.map es clock) → (Instr.mapUpdate 43 (.map (some m)) (.string s) (.int .u64 n)).run Tryd.prog w' = .ok () (setBlock w' m (.map es' clock'))) ∧
      ∀ w' : World, w'.heap[m]? = some (.map es clock) → IdsAt (setBlock w' m (.map es' clock')) m es' clock' (putA s n l) := by
  obtain ⟨es', clock', hrun, hrel, hst, -⟩ := run_mapUpdate_rel (m := m) (R' := idR) (keyEnc_string Tryd.underlying9) Tryd.underlying43 h.rel h.stamped s (.int .u64 n) n rfl (fun _ _ _ _ h => h)
  refine ⟨es', clock', fun w' hm => hrun w' hm, fun w' hm => ⟨?_, hst, hrel, h.nodup.put s n⟩⟩
  have hmlt := (Array.getElem?_eq_some_iff.1 hm).1
  simp [ChangeMaps.setBlock, hmlt]
/-- A name is taken out. -/
theorem IdsAt.del {w : World} {m : Nat} {es : Array MapEntry} {clock : Nat} {l : IdsL} (h : IdsAt w m es clock l) (s : ByteArray) (ty : TypeId) :
    ∃ es', (∀ w' : World, w'.heap[m]? = some (.map es clock) → (Builtin.delete_ #[43, 9] ty #[.map (some m), .string s]).run Tryd.prog w' = .ok (.tuple #[]) (setBlock w' m (.map es' clock))) ∧
      ∀ w' : World, w'.heap[m]? = some (.map es clock) → IdsAt (setBlock w' m (.map es' clock)) m es' clock (delA s l) := by
  obtain ⟨es', hrun, hrel, hst, -⟩ := run_delete_rel (m := m) (ty := ty) (keyEnc_string Tryd.underlying9) Tryd.underlying43 h.rel h.stamped s
  refine ⟨es', fun w' hm => hrun w' hm, fun w' hm => ⟨?_, hst, hrel, h.nodup.del s⟩⟩
  have hmlt := (Array.getElem?_eq_some_iff.1 hm).1
  simp [ChangeMaps.setBlock, hmlt]

theorem wpList_delete_run {P : Program} {ops : Array Oper} {o : Oper} {a : Act} {w : World} {Q : Exit → Act → World → Prop} {rest : List Oper} (hg : o.guard = none) (s x : Operand) (ts : Array TypeId)
    (hop : o.op = Op.call { callee := Callee.builtin Builtin.delete, args := #[s, x], argTypes := ts }) (v u v' : Value) (w' : World) (hs : a.eval s = v) (hx : a.eval x = u) (hrun : (Builtin.delete_ ts o.type #[v, u]).run P w = .ok v' w')
    (h : wpList P ops Q rest (a.put o.dst v') w') : wpList P ops Q (o :: rest) a w := by
  refine wpList_plain hg fun K hK' => ?_
  exact wp_delete_run s x ts hop v u v' w' hs hx hrun (hK' _ _ h)
/-- What lay has laid when these entries have come. -/
structure LayRel (l cl : IdsL) (vis : List MapEntry) (l' : IdsL) : Prop where
  nodup : NodupA l'
  seen : ∀ e ∈ vis, ∀ s n, e.key = .string s → getA s cl = some n → getA s l' = if n = 0 then none else some n
  rest : ∀ s, (∀ e ∈ vis, e.key ≠ .string s) → getA s l' = getA s l
theorem LayRel.step {l cl : IdsL} {vis : List MapEntry} {l' : IdsL} (h : LayRel l cl vis l') {e : MapEntry} {s : ByteArray} {n : Nat} (he : e.key = .string s) (hn : getA s cl = some n) :
    LayRel l cl (vis ++ [e]) (layOne l' (s, n)) := by
  refine ⟨layOne_nodup h.nodup _, fun e' he' t k ht hk => ?_, fun t ht => ?_⟩
  · rw [getA_layOne h.nodup]
    simp only
    by_cases hts : t = s
    · subst hts
      rw [hn] at hk; cases hk
      rw [if_pos rfl]
    · rw [if_neg hts]
      rcases List.mem_append.1 he' with he' | he'
      · exact h.seen e' he' t k ht hk
      · rw [List.mem_singleton.1 he', he] at ht
        cases ht
        exact absurd rfl hts
  · rw [getA_layOne h.nodup]
    simp only
    rw [if_neg (fun e1 => ht e (by simp) (by rw [he, e1]))]
    exact h.rest t (fun e' he' => ht e' (by simp [he']))

set_option maxRecDepth 100000 in
set_option maxHeartbeats 1000000 in
theorem lay_any {w : World} {r m cm : Nat} {es ces : Array MapEntry} {clock cclock : Nat} {l cl : IdsL} {jp : Value} (hr : w.heap[r]? = some (.cells #[.map (some m), jp] 91 (0, 0))) (h : IdsAt w m es clock l) (hc : IdsAt w cm ces cclock cl) (hne : cm ≠ m) :
    Calls Tryd.prog 53 #[.pointer (some ⟨r, 0, none⟩), .map (some cm)] w fun e w' => e = .returned (.tuple #[]) ∧ ∃ es' clock' l', IdsAt w' m es' clock' l' ∧ l'.Perm (layL l cl) ∧ Kept (· = m) w w' := by
  have hrange := run_range_map (P := Tryd.prog) (es := ces) (clock := cclock) Tryd.underlying43 w hc.map
  have hrm : r ≠ m := by intro e; rw [e, h.map] at hr; cases hr
  have HRM := Lib.hid hrm
  have HR := Lib.hid hr
  have HH := Lib.hid h
  have HC := Lib.hid hc
  have HNE := Lib.hid hne
  have hst : IterAt (w.alloc (.mapIter (some cm) cclock #[] cclock)) w.heap.size cm ces cclock [] := IterAt.start
  have HK0 : Hid (Kept (fun _ => False) w (w.alloc (.mapIter (some cm) cclock #[] cclock))) := Lib.hid ((Kept.refl _ w).alloc _)
  have HN : Hid (r < w.heap.size ∧ m < w.heap.size ∧ cm < w.heap.size) := Lib.hid ⟨(Array.getElem?_eq_some_iff.1 hr).1, h.lt, hc.lt⟩
  obtain ⟨W0, hW0⟩ : ∃ W, w.alloc (.mapIter (some cm) cclock #[] cclock) = W := ⟨_, rfl⟩
  obtain ⟨n, hn⟩ : ∃ n, ces.size = n := ⟨_, rfl⟩
  have HCS := Lib.hid hn
  rw [hW0] at hst HK0
  have HST := Lib.hid hst
  clear hr h hc hst hrm hne hn
  go_enter Tryd.func53, Tryd.ntmps53
  go_wp2_with fail
  clear hrange hW0
  go_loopg [] n (fun g wr => ∃ vis es' clock' l', vis.length + g = n ∧ Hid (IterAt wr w.heap.size cm ces cclock vis) ∧ Hid (IdsAt wr m es' clock' l' ∧ LayRel l cl vis l' ∧ Kept (· = m) w wr))
  case atStart =>
    exact ⟨[], es, clock, l, by simp, HST, Lib.hid ⟨HH.out.kept HK0.out (fun f => f), ⟨HH.out.nodup, fun e he => (by cases he), fun _ _ => rfl⟩, HK0.out.mono (fun _ _ f => f.elim)⟩⟩
  case round =>
    obtain ⟨vis, es1, clock1, l1, hg, HI, HX⟩ := hrel
    have hcm : Hid (IdsAt wr cm ces cclock cl) := Lib.hid (HC.out.kept HX.out.2.2 HNE.out)
    rcases HI.out.next (P := Tryd.prog) hcm.out.map hcm.out.stamped 0 with ⟨hall, hnx⟩ | ⟨e, he, hnew, w3, hnx, hen, hi3, hk3, hsz3⟩
    · go_wp2
      go_end0
      refine ⟨rfl, es1, clock1, l1, HX.out.1, layL_perm HH.out.nodup HC.out.nodup HX.out.2.1.nodup (fun s => ?_), HX.out.2.2⟩
      cases hs : getA s cl with
      | none =>
        refine HX.out.2.1.rest s (fun e he hk => ?_)
        obtain ⟨p, hp, hpk, -⟩ := HC.out.rel.mem e (HI.out.sub e he)
        rw [hk] at hpk
        cases hpk
        exact getA_none hs p hp rfl
      | some k =>
        obtain ⟨e, he, hek, -⟩ := HC.out.rel.mem' _ (getA_mem hs)
        exact HX.out.2.1.seen e (hall e he) s k hek hs
    · obtain ⟨⟨s, k⟩, hp, hek, hev⟩ := hcm.out.rel.mem e he
      have hsk : getA s cl = some k := getA_of_mem HC.out.nodup hp
      unfold idR at hev
      simp only at hek hev
      have hnv : ∀ y ∈ vis, y.key ≠ e.key := fun y hy hy2 => hnew y hy (by rw [key_inj HC.out.stamped (HI.out.sub y hy) he hy2])
      have h3 : IdsAt w3 m es1 clock1 l1 := HX.out.1.kept hk3 (fun e => by have := HN.out; omega)
      have hkw3 : Kept (· = m) w w3 := HX.out.2.2.trans hk3 (fun i hi e => by omega)
      have hr3 : w3.heap[r]? = some (.cells #[.map (some m), jp] 91 (0, 0)) := (hkw3.block r HN.out.1 HRM.out).trans HR.out
      have c0 : w3.cell? ⟨r, 0, none⟩ = some (.map (some m)) := by simp [World.cell?, hr3]
      have hL := Lib.hid (HX.out.2.1.step (e := e) hek hsk)
      have hI3 := Lib.hid hi3
      have hKW := Lib.hid hkw3
      have hg2 : Hid (vis.length + 1 ≤ n) := Lib.hid (by have := hi3.le; rw [HCS.out] at this; simpa using this)
      have hm3 := h3.map
      by_cases hk0 : k = 0
      · subst hk0
        obtain ⟨es2, hrun, hid2⟩ := h3.del s 0
        have hd := hrun w3 hm3
        have HD := Lib.hid (hid2 w3 hm3)
        rw [hek, hev] at hnx hen
        clear hrun hid2 h3 hr3 hm3 hi3 hkw3
        go_wp2_with (at_builtin; refine wpList_delete_run rfl (.tmp 18) (.tmp 19) #[43, 9] rfl _ _ _ _ rfl rfl hd ?_)
        have hkf : Kept (· = m) w3 (setBlock w3 m (.map es2 clock1)) := (Kept.refl (· = m) w3).setBlock (fun _ => rfl) _
        have HX2 : Hid (IdsAt (setBlock w3 m (.map es2 clock1)) m es2 clock1 (delA s l1) ∧ LayRel l cl (vis ++ [e]) (delA s l1) ∧ Kept (· = m) w (setBlock w3 m (.map es2 clock1))) := Lib.hid ⟨HD.out, by have := hL.out; unfold layOne at this; simpa using this, hKW.out.trans hkf (fun i _ e => e)⟩
        have HI2 : Hid (IterAt (setBlock w3 m (.map es2 clock1)) w.heap.size cm ces cclock (vis ++ [e])) := Lib.hid (hI3.out.kept (hkf.block _ hI3.out.lt (fun e => by have := HN.out; omega)))
        go_roundg (gk - 1)
        case measure => have := hg2.out; omega
        case rel => exact ⟨vis ++ [e], es2, clock1, _, by have := hg2.out; simp; omega, HI2, HX2⟩
      · have hk0b : ((k : Int) == 0) = false := by simp; omega
        obtain ⟨es2, clock2, hrun, hid2⟩ := h3.put s k
        have hd := hrun w3 hm3
        have HD := Lib.hid (hid2 w3 hm3)
        rw [hek, hev] at hnx hen
        clear hrun hid2 h3 hr3 hm3 hi3 hkw3
        go_wp2
        have hkf : Kept (· = m) w3 (setBlock w3 m (.map es2 clock2)) := (Kept.refl (· = m) w3).setBlock (fun _ => rfl) _
        have HX2 : Hid (IdsAt (setBlock w3 m (.map es2 clock2)) m es2 clock2 (putA s k l1) ∧ LayRel l cl (vis ++ [e]) (putA s k l1) ∧ Kept (· = m) w (setBlock w3 m (.map es2 clock2))) := Lib.hid ⟨HD.out, by have := hL.out; unfold layOne at this; simpa [hk0] using this, hKW.out.trans hkf (fun i _ e => e)⟩
        have HI2 : Hid (IterAt (setBlock w3 m (.map es2 clock2)) w.heap.size cm ces cclock (vis ++ [e])) := Lib.hid (hI3.out.kept (hkf.block _ hI3.out.lt (fun e => by have := HN.out; omega)))
        go_roundg (gk - 1)
        case measure => have := hg2.out; omega
        case rel => exact ⟨vis ++ [e], es2, clock2, _, by have := hg2.out; simp; omega, HI2, HX2⟩
end Go.Proofs.YtjnhkepgoghogaaDoor
