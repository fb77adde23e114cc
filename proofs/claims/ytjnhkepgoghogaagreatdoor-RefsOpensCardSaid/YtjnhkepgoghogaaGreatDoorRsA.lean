/- refs: where the names and ids lie; lay. -/
import Derived.Test.YtjnhkepgoghogaaGreatDoorRsK
import Derived.Test.YtjnhkepgoghogaaGreatDoorDiskF
import Derived.Test.YtjnhkepgoghogaaGreatDoorIter
import Derived.Test.YtjnhkepgoghogaaGreatDoorRsT
import Derived.Test.YtjnhkepgoghogaaGreatDoorPhase
import Derived.Deep.RegionHeld3
namespace Go.Proofs.YtjnhkepgoghogaaGreatDoor
open Go.RowKit Go.ChangeMaps Go.MapKept
set_option linter.unusedSimpArgs false

def idR (v : Value) (n : Nat) : Prop := v = .int .u64 n
/-- A map from names to ids at block m. -/
structure IdsAt (w : World) (m : Nat) (es : Array MapEntry) (clock : Nat) (l : IdsL) : Prop where
  map : w.heap[m]? = some (.map es clock)
  stamped : Stamped es clock
  rel : RelM Value.string idR es.toList l
  nodup : NodupA l
theorem IdsAt.kept {w w' : World} {m : Nat} {es : Array MapEntry} {clock : Nat} {l : IdsL} (h : IdsAt w m es clock l) {G : Nat → Prop} (hk : Kept G w w') (hG : ¬ G m) : IdsAt w' m es clock l :=
  ⟨(hk.block m (Array.getElem?_eq_some_iff.1 h.map).1 hG).trans h.map, h.stamped, h.rel, h.nodup⟩
theorem IdsAt.lt {w : World} {m : Nat} {es : Array MapEntry} {clock : Nat} {l : IdsL} (h : IdsAt w m es clock l) : m < w.heap.size := (Array.getElem?_eq_some_iff.1 h.map).1
theorem IdsAt.size {w : World} {m : Nat} {es : Array MapEntry} {clock : Nat} {l : IdsL} (h : IdsAt w m es clock l) : es.size = l.length := by have := h.rel.length; simpa using this
theorem zero_id (w : World) : (zeroValue 36).run Tryz.prog w = .ok (.int .u64 0) w := by kernel_rfl
/-- A name is looked up. -/
theorem IdsAt.look {w : World} {m : Nat} {es : Array MapEntry} {clock : Nat} {l : IdsL} (h : IdsAt w m es clock l) (s : ByteArray) (ok : Bool) (w' : World) (hm : w'.heap[m]? = some (.map es clock)) :
    (Instr.lookup 63 (.map (some m)) (.string s) ok).run Tryz.prog w' = .ok (if ok then .tuple #[.int .u64 ((getA s l).getD 0 : Nat), .bool (getA s l).isSome] else .int .u64 ((getA s l).getD 0 : Nat)) w' := by
  obtain ⟨v, hrun, hv⟩ := run_lookup_rel (m := m) (clock := clock) (keyEnc_string Tryz.underlying9) Tryz.underlying63 zero_id h.rel s ok
  rw [hrun w' hm]
  rcases hv with ⟨h1, rfl⟩ | ⟨n, e, h1, h2, -⟩
  · rw [h1]; rfl
  · rw [h1]; unfold idR at h2; subst h2; rfl
/-- A name's id is put. -/
theorem IdsAt.put {w : World} {m : Nat} {es : Array MapEntry} {clock : Nat} {l : IdsL} (h : IdsAt w m es clock l) (s : ByteArray) (n : Nat) :
    ∃ es' clock', (∀ w' : World, w'.heap[m]? = some (.map es clock) → (Instr.mapUpdate 63 (.map (some m)) (.string s) (.int .u64 n)).run Tryz.prog w' = .ok () (setBlock w' m (.map es' clock'))) ∧
      ∀ w' : World, w'.heap[m]? = some (.map es clock) → IdsAt (setBlock w' m (.map es' clock')) m es' clock' (putA s n l) := by
  obtain ⟨es', clock', hrun, hrel, hst, -⟩ := run_mapUpdate_rel (m := m) (R' := idR) (keyEnc_string Tryz.underlying9) Tryz.underlying63 h.rel h.stamped s (.int .u64 n) n rfl (fun _ _ _ _ h => h)
  refine ⟨es', clock', fun w' hm => hrun w' hm, fun w' hm => ⟨?_, hst, hrel, h.nodup.put s n⟩⟩
  have hmlt := (Array.getElem?_eq_some_iff.1 hm).1
  simp [ChangeMaps.setBlock, hmlt]
/-- A name is taken out. -/
theorem IdsAt.del {w : World} {m : Nat} {es : Array MapEntry} {clock : Nat} {l : IdsL} (h : IdsAt w m es clock l) (s : ByteArray) (ty : TypeId) :
    ∃ es', (∀ w' : World, w'.heap[m]? = some (.map es clock) → (Builtin.delete_ #[63, 9] ty #[.map (some m), .string s]).run Tryz.prog w' = .ok (.tuple #[]) (setBlock w' m (.map es' clock))) ∧
      ∀ w' : World, w'.heap[m]? = some (.map es clock) → IdsAt (setBlock w' m (.map es' clock)) m es' clock (delA s l) := by
  obtain ⟨es', hrun, hrel, hst, -⟩ := run_delete_rel (m := m) (ty := ty) (keyEnc_string Tryz.underlying9) Tryz.underlying63 h.rel h.stamped s
  refine ⟨es', fun w' hm => hrun w' hm, fun w' hm => ⟨?_, hst, hrel, h.nodup.del s⟩⟩
  have hmlt := (Array.getElem?_eq_some_iff.1 hm).1
  simp [ChangeMaps.setBlock, hmlt]

theorem wpList_delete_run {P : Program} {ops : Array Oper} {o : Oper} {a : Act} {w : World} {Q : Exit → Act → World → Prop} {rest : List Oper} (hg : o.guard = none) (s x : Operand) (ts : Array TypeId)
    (hop : o.op = Op.call { callee := Callee.builtin Builtin.delete, args := #[s, x], argTypes := ts }) (v u v' : Value) (w' : World) (hs : a.eval s = v) (hx : a.eval x = u) (hrun : (Builtin.delete_ ts o.type #[v, u]).run P w = .ok v' w')
    (h : wpList P ops Q rest (a.put o.dst v') w') : wpList P ops Q (o :: rest) a w := by
  refine wpList_plain hg fun K hK' => ?_
  exact wp_delete_run s x ts hop v u v' w' hs hx hrun (hK' _ _ h)
/-- What lay has laid when these entries have come. -/
structure LayRel (l cl : IdsL) (vis : List MapEntry) (l' : IdsL) : Prop where
  nodup : NodupA l'
  seen : ∀ e ∈ vis, ∀ s n, e.key = .string s → getA s cl = some n → getA s l' = if n = 0 then none else some n
  rest : ∀ s, (∀ e ∈ vis, e.key ≠ .string s) → getA s l' = getA s l
theorem LayRel.step {l cl : IdsL} {vis : List MapEntry} {l' : IdsL} (h : LayRel l cl vis l') {e : MapEntry} {s : ByteArray} {n : Nat} (he : e.key = .string s) (hn : getA s cl = some n) :
    LayRel l cl (vis ++ [e]) (layOne l' (s, n)) := by
  refine ⟨layOne_nodup h.nodup _, fun e' he' t k ht hk => ?_, fun t ht => ?_⟩
  · rw [getA_layOne h.nodup]
    simp only
    by_cases hts : t = s
    · subst hts
      rw [hn] at hk; cases hk
      rw [if_pos rfl]
    · rw [if_neg hts]
      rcases List.mem_append.1 he' with he' | he'
      · exact h.seen e' he' t k ht hk
      · rw [List.mem_singleton.1 he', he] at ht
        cases ht
        exact absurd rfl hts
  · rw [getA_layOne h.nodup]
    simp only
    rw [if_neg (fun e1 => ht e (by simp) (by rw [he, e1]))]
    exact h.rest t (fun e' he' => ht e' (by simp [he']))

set_option maxRecDepth 100000 in
set_option maxHeartbeats 1000000 in
theorem lay_any {w : World} {r m cm : Nat} {es ces : Array MapEntry} {clock cclock : Nat} {l cl : IdsL} {jp : Value} (hr : w.heap[r]? = some (.cells #[.map (some m), jp] 65 (0, 0))) (h : IdsAt w m es clock l) (hc : IdsAt w cm ces cclock cl) (hne : cm ≠ m) :
    Calls Tryz.prog 28 #[.pointer (some ⟨r, 0, none⟩), .map (some cm)] w fun e w' => e = .returned (.tuple #[]) ∧ ∃ es' clock' l', IdsAt w' m es' clock' l' ∧ l'.Perm (layL l cl) ∧ Kept (· = m) w w' := by
  have hrange := run_range_map (P := Tryz.prog) (es := ces) (clock := cclock) Tryz.underlying63 w hc.map
  have hrm : r ≠ m := by intro e; rw [e, h.map] at hr; cases hr
  have HRM := Lib.hid hrm
  have HR := Lib.hid hr
  have HH := Lib.hid h
  have HC := Lib.hid hc
  have HNE := Lib.hid hne
  have hst : IterAt (w.alloc (.mapIter (some cm) cclock #[] cclock)) w.heap.size cm ces cclock [] := IterAt.start
  have HK0 : Hid (Kept (fun _ => False) w (w.alloc (.mapIter (some cm) cclock #[] cclock))) := Lib.hid ((Kept.refl _ w).alloc _)
  have HN : Hid (r < w.heap.size ∧ m < w.heap.size ∧ cm < w.heap.size) := Lib.hid ⟨(Array.getElem?_eq_some_iff.1 hr).1, h.lt, hc.lt⟩
  obtain ⟨W0, hW0⟩ : ∃ W, w.alloc (.mapIter (some cm) cclock #[] cclock) = W := ⟨_, rfl⟩
  obtain ⟨n, hn⟩ : ∃ n, ces.size = n := ⟨_, rfl⟩
  have HCS := Lib.hid hn
  rw [hW0] at hst HK0
  have HST := Lib.hid hst
  clear hr h hc hst hrm hne hn
  go_enter Tryz.func28, Tryz.ntmps28
  go_wp2_with fail
  clear hrange hW0
  go_loopg [] n (fun g wr => ∃ vis es' clock' l', vis.length + g = n ∧ Hid (IterAt wr w.heap.size cm ces cclock vis) ∧ Hid (IdsAt wr m es' clock' l' ∧ LayRel l cl vis l' ∧ Kept (· = m) w wr))
  case atStart =>
    exact ⟨[], es, clock, l, by simp, HST, Lib.hid ⟨HH.out.kept HK0.out (fun f => f), ⟨HH.out.nodup, fun e he => (by cases he), fun _ _ => rfl⟩, HK0.out.mono (fun _ _ f => f.elim)⟩⟩
  case round =>
    obtain ⟨vis, es1, clock1, l1, hg, HI, HX⟩ := hrel
    have hcm : Hid (IdsAt wr cm ces cclock cl) := Lib.hid (HC.out.kept HX.out.2.2 HNE.out)
    rcases HI.out.next (P := Tryz.prog) hcm.out.map hcm.out.stamped 0 with ⟨hall, hnx⟩ | ⟨e, he, hnew, w3, hnx, hen, hi3, hk3, hsz3⟩
    · go_wp2
      go_end0
      refine ⟨rfl, es1, clock1, l1, HX.out.1, layL_perm HH.out.nodup HC.out.nodup HX.out.2.1.nodup (fun s => ?_), HX.out.2.2⟩
      cases hs : getA s cl with
      | none =>
        refine HX.out.2.1.rest s (fun e he hk => ?_)
        obtain ⟨p, hp, hpk, -⟩ := HC.out.rel.mem e (HI.out.sub e he)
        rw [hk] at hpk
        cases hpk
        exact getA_none hs p hp rfl
      | some k =>
        obtain ⟨e, he, hek, -⟩ := HC.out.rel.mem' _ (getA_mem hs)
        exact HX.out.2.1.seen e (hall e he) s k hek hs
    · obtain ⟨⟨s, k⟩, hp, hek, hev⟩ := hcm.out.rel.mem e he
      have hsk : getA s cl = some k := getA_of_mem HC.out.nodup hp
      unfold idR at hev
      simp only at hek hev
      have hnv : ∀ y ∈ vis, y.key ≠ e.key := fun y hy hy2 => hnew y hy (by rw [key_inj HC.out.stamped (HI.out.sub y hy) he hy2])
      have h3 : IdsAt w3 m es1 clock1 l1 := HX.out.1.kept hk3 (fun e => by have := HN.out; omega)
      have hkw3 : Kept (· = m) w w3 := HX.out.2.2.trans hk3 (fun i hi e => by omega)
      have hr3 : w3.heap[r]? = some (.cells #[.map (some m), jp] 65 (0, 0)) := (hkw3.block r HN.out.1 HRM.out).trans HR.out
      have c0 : w3.cell? ⟨r, 0, none⟩ = some (.map (some m)) := by simp [World.cell?, hr3]
      have hL := Lib.hid (HX.out.2.1.step (e := e) hek hsk)
      have hI3 := Lib.hid hi3
      have hKW := Lib.hid hkw3
      have hg2 : Hid (vis.length + 1 ≤ n) := Lib.hid (by have := hi3.le; rw [HCS.out] at this; simpa using this)
      have hm3 := h3.map
      by_cases hk0 : k = 0
      · subst hk0
        obtain ⟨es2, hrun, hid2⟩ := h3.del s 0
        have hd := hrun w3 hm3
        have HD := Lib.hid (hid2 w3 hm3)
        rw [hek, hev] at hnx hen
        clear hrun hid2 h3 hr3 hm3 hi3 hkw3
        go_wp2_with (at_builtin; refine wpList_delete_run rfl (.tmp 18) (.tmp 19) #[63, 9] rfl _ _ _ _ rfl rfl hd ?_)
        have hkf : Kept (· = m) w3 (setBlock w3 m (.map es2 clock1)) := (Kept.refl (· = m) w3).setBlock (fun _ => rfl) _
        have HX2 : Hid (IdsAt (setBlock w3 m (.map es2 clock1)) m es2 clock1 (delA s l1) ∧ LayRel l cl (vis ++ [e]) (delA s l1) ∧ Kept (· = m) w (setBlock w3 m (.map es2 clock1))) := Lib.hid ⟨HD.out, by have := hL.out; unfold layOne at this; simpa using this, hKW.out.trans hkf (fun i _ e => e)⟩
        have HI2 : Hid (IterAt (setBlock w3 m (.map es2 clock1)) w.heap.size cm ces cclock (vis ++ [e])) := Lib.hid (hI3.out.kept (hkf.block _ hI3.out.lt (fun e => by have := HN.out; omega)))
        go_roundg (gk - 1)
        case measure => have := hg2.out; omega
        case rel => exact ⟨vis ++ [e], es2, clock1, _, by have := hg2.out; simp; omega, HI2, HX2⟩
      · have hk0b : ((k : Int) == 0) = false := by simp; omega
        obtain ⟨es2, clock2, hrun, hid2⟩ := h3.put s k
        have hd := hrun w3 hm3
        have HD := Lib.hid (hid2 w3 hm3)
        rw [hek, hev] at hnx hen
        clear hrun hid2 h3 hr3 hm3 hi3 hkw3
        go_wp2
        have hkf : Kept (· = m) w3 (setBlock w3 m (.map es2 clock2)) := (Kept.refl (· = m) w3).setBlock (fun _ => rfl) _
        have HX2 : Hid (IdsAt (setBlock w3 m (.map es2 clock2)) m es2 clock2 (putA s k l1) ∧ LayRel l cl (vis ++ [e]) (putA s k l1) ∧ Kept (· = m) w (setBlock w3 m (.map es2 clock2))) := Lib.hid ⟨HD.out, by have := hL.out; unfold layOne at this; simpa [hk0] using this, hKW.out.trans hkf (fun i _ e => e)⟩
        have HI2 : Hid (IterAt (setBlock w3 m (.map es2 clock2)) w.heap.size cm ces cclock (vis ++ [e])) := Lib.hid (hI3.out.kept (hkf.block _ hI3.out.lt (fun e => by have := HN.out; omega)))
        go_roundg (gk - 1)
        case measure => have := hg2.out; omega
        case rel => exact ⟨vis ++ [e], es2, clock2, _, by have := hg2.out; simp; omega, HI2, HX2⟩
end Go.Proofs.YtjnhkepgoghogaaGreatDoor

/- refs: record. -/
namespace Go.Proofs.YtjnhkepgoghogaaGreatDoor
open Go.RowKit Go.ChangeMaps Go.MapKept
set_option linter.unusedSimpArgs false

theorem numFrom_lt : ∀ (l : List UInt8) (i x : Nat), i ≤ 9 → x < 2 ^ (7 * i) → (numFrom i x l).1 < 18446744073709551616
  | [], _, _, _, _ => by simp [numFrom]
  | c :: l, i, x, hi, hx => by
    unfold numFrom
    by_cases h1 : (i = 9 ∧ 1 < c.toNat) ∨ (0 < i ∧ c.toNat = 0)
    · rw [if_pos h1]; simp
    rw [if_neg h1]
    have hc : c.toNat % 128 < 128 := Nat.mod_lt _ (by omega)
    have hm : c.toNat % 128 * 2 ^ (7 * i) ≤ 127 * 2 ^ (7 * i) := Nat.mul_le_mul_right _ (by omega)
    have he : 2 ^ (7 * (i + 1)) = 128 * 2 ^ (7 * i) := by rw [Nat.mul_add, Nat.pow_add, Nat.mul_comm]
    by_cases h9 : i = 9
    · subst h9
      have hc1 : c.toNat ≤ 1 := by omega
      have hc2 : c.toNat % 128 = c.toNat := by omega
      rw [if_pos (by omega), hc2]
      simp only
      have : c.toNat * 2 ^ (7 * 9) ≤ 1 * 2 ^ (7 * 9) := Nat.mul_le_mul_right _ hc1
      omega
    · have hp : 2 ^ (7 * (i + 1)) ≤ 2 ^ 63 := Nat.pow_le_pow_right (by omega) (by omega)
      by_cases h2 : c.toNat < 128
      · rw [if_pos h2]
        simp only
        omega
      · rw [if_neg h2]
        exact numFrom_lt l (i + 1) _ (by omega) (by omega)
theorem RM.uint_lt (r : RM) : r.uint.1 < 18446744073709551616 := by
  unfold RM.uint
  split
  · split
    · exact numFrom_lt _ 0 0 (by omega) (by omega)
    · simp
  · simp
theorem recGo_step {S : IdsL} {g : Nat} {q q1 q2 : RM} {met : IdsL} {s : ByteArray} {id : Nat} (h1 : q.text 200 = (s, q1)) (h2 : q1.word = (id, q2)) : recGo S (g + 1) q met = if q2.err ≠ 0 ∨ (getA s met).isSome = true ∨ mayOf s ≠ 0 then none else if id = 0 ∧ getA s S = none then none else recGo S g q2 (met ++ [(s, id)]) := by
  rw [recGo, h1]
  simp only
  rw [h2]

/-- What is done to a map leaves a reader as it is. -/
theorem RdrAt.keptMap {w w' : World} {B N m : Nat} {r : RM} {es : Array MapEntry} {clock : Nat} (h : RdrAt w B N r) (hm : w.heap[m]? = some (.map es clock)) (hk : Kept (· = m) w w') : RdrAt w' B N r := by
  obtain ⟨a, c, hc, hB, hN, hn⟩ := h.at_
  refine ⟨a, c, (hk.block B (Array.getElem?_eq_some_iff.1 hc).1 (fun e => by rw [e, hm] at hc; cases hc)).trans hc, hB.keptS hk (fun hne g hg e => ?_), hN, hn⟩
  obtain ⟨a', c', hv, -, -, h3⟩ := hB
  cases hv
  rcases h3 with h3 | ⟨g', o, rfl, -, hcell⟩
  · exact hne h3
  · cases hg
    obtain ⟨x, l, hx⟩ := List.exists_cons_of_ne_nil hne
    have := hcell 0 (.int .u8 (x.toNat : Int)) (by rw [hx]; rfl)
    have e2 : g' = m := e
    rw [e2] at this
    simp [World.cell?, hm] at this

theorem IdsAt.keptF {w w' : World} {m : Nat} {es : Array MapEntry} {clock : Nat} {l : IdsL} (h : IdsAt w m es clock l) (hk : Kept (fun _ => False) w w') : IdsAt w' m es clock l := h.kept hk (fun f => f)

set_option maxRecDepth 100000 in
set_option maxHeartbeats 1000000 in
theorem record_refs {w : World} {r m : Nat} {es : Array MapEntry} {clock : Nat} {S : IdsL} {jp : Value} (hr : w.heap[r]? = some (.cells #[.map (some m), jp] 65 (0, 0))) (h : IdsAt w m es clock S) (v : Value) (p : List UInt8) (hv : IsB w v p) (hl : p.length ≤ 100000000) :
    Calls Tryz.prog 22 #[.pointer (some ⟨r, 0, none⟩), v] w fun e w' => e = .returned (.bool (recR S p).isSome) ∧ Kept (· = m) w w' ∧ ∀ S', recR S p = some S' → ∃ es' clock' l', IdsAt w' m es' clock' l' ∧ l'.Perm S' := by
  have HRD := Lib.hid (reader_any w v p hv (by omega))
  have HR := Lib.hid hr
  have HH := Lib.hid h
  have HRM : Hid (r ≠ m) := Lib.hid (by intro e; rw [e, h.map] at hr; cases hr)
  have HN : Hid (r < w.heap.size ∧ m < w.heap.size) := Lib.hid ⟨(Array.getElem?_eq_some_iff.1 hr).1, h.lt⟩
  obtain ⟨R, hR⟩ : ∃ R, recR S p = R := ⟨_, rfl⟩
  rw [hR]
  unfold recR at hR
  have HRR := Lib.hid hR
  clear hr h hR
  have hmm := @run_makeMap Tryz.prog
  go_enter Tryz.func22, Tryz.ntmps22
  go_wp2_with fail
  go_step3
  go_wp2_with fail
  refine HRD.out.mono ?_
  rintro e w1 ⟨B, rfl, hB, hA, hk1⟩
  have HU := Lib.hid (uint_any hA)
  have hn64 := RM.uint_lt (RM.mk p 0)
  obtain ⟨⟨n, q⟩, hq⟩ : ∃ q, (RM.mk p 0).uint = q := ⟨_, rfl⟩
  rw [hq] at HU HRR hn64
  simp only at HU HRR hn64
  go_wp2_with fail
  refine HU.out.mono ?_
  rintro e w2 ⟨rfl, hA2, hk2⟩
  have hB2 : B < w2.heap.size := by obtain ⟨a, c, c1, c2, c3, -, -, c4, -⟩ := hA2.cells; exact (Array.getElem?_eq_some_iff.1 c4).1
  obtain ⟨W0, hW0⟩ : ∃ W, w2.alloc (.map #[] 0) = W := ⟨_, rfl⟩
  have hkm : Kept (fun _ => False) w2 W0 := by rw [← hW0]; exact (Kept.refl _ _).alloc _
  have HK0 : Hid (Kept (fun _ => False) w W0) := Lib.hid ((hk1.more hk2 (fun i (e : i = B) => e ▸ hB)).more hkm (fun _ f => f.elim))
  have HI0 : Hid (IdsAt W0 w2.heap.size #[] 0 []) := Lib.hid ⟨by rw [← hW0]; exact heap_alloc_new _ _, stamped_empty 0, trivial, by simp [NodupA]⟩
  have HB2 := Lib.hid hB2
  have HA0 := Lib.hid (hA2.kept hkm (fun _ f => f.elim))
  have HS0 : Hid (w.heap.size ≤ w2.heap.size ∧ w1.heap.size ≤ w2.heap.size) := Lib.hid ⟨Nat.le_trans hk1.size hk2.size, hk2.size⟩
  clear hA hA2 hk1 hk2 hkm HU hB2
  go_wp2_with fail
  go_step3
  go_wp2_with fail
  clear hmm hW0
  go_loopg [6] n (fun g u wr => ∃ qr met mes mclk, u = .int .u64 g ∧ g ≤ n ∧ Hid (recEnd S (recGo S g qr met) = R) ∧ Hid (RdrAt wr B w1.heap.size qr) ∧ Hid (IdsAt wr w2.heap.size mes mclk met) ∧ Hid (Kept (fun _ => False) w wr))
  case atStart =>
    exact ⟨q, [], #[], 0, rfl, Nat.le_refl _, HRR, HA0, HI0, HK0⟩
  case round =>
    obtain ⟨qr, met, mes, mclk, rfl, hgn, HG, HA, HI, HK⟩ := hrel
    clear HA0 HI0 HK0 HRR
    have HH2 := Lib.hid (HH.out.kept HK.out (fun f => f))
    have HR2 := Lib.hid ((HK.out.block r HN.out.1 (fun f => f)).trans HR.out)
    rcases Nat.eq_zero_or_pos gk with rfl | hpos
    · rw [recGo] at HG
      have HL := Lib.hid (lay_any HR2.out HH2.out HI.out (by have := HN.out; have := HS0.out; omega))
      go_wp2_with fail
      refine HL.out.mono ?_
      rintro e w4 ⟨rfl, es4, clk4, l4, hI4, hp4, hk4⟩
      have HST := Lib.hid (stop_any (HA.out.keptMap HH2.out.map hk4))
      have hn4 := hI4.nodup
      have hlen4 : l4.length = (layL S met).length := hp4.length_eq
      have hr4 : w4.heap[r]? = some (.cells #[.map (some m), jp] 65 (0, 0)) := (hk4.block r (Array.getElem?_eq_some_iff.1 HR2.out).1 HRM.out).trans HR2.out
      have c0 : w4.cell? ⟨r, 0, none⟩ = some (.map (some m)) := by simp [World.cell?, hr4]
      have hm4 : IdsAt w4 w2.heap.size mes mclk met := HI.out.kept hk4 (by have := HN.out; have := HS0.out; omega)
      have hl1 := fun ty => len_map (P := Tryz.prog) Tryz.underlying63 ty w4 hm4.map
      have hl2 := fun ty => len_map (P := Tryz.prog) Tryz.underlying63 ty w4 hI4.map
      rw [hm4.size] at hl1
      rw [hI4.size, hlen4] at hl2
      have HK4 : Hid (Kept (· = m) w w4) := Lib.hid ((HK.out.mono (fun _ _ f => f.elim)).trans hk4 (fun _ _ e => e))
      have HI4 : Hid (∃ es' clock' l', IdsAt w4 m es' clock' l' ∧ l'.Perm (layL S met)) := Lib.hid ⟨_, _, _, hI4, hp4⟩
      have HE : Hid (R = if qr.stop = 0 ∧ met ≠ [] ∧ (layL S met).length ≤ 64 then some (layL S met) else none) := Lib.hid HG.out.symm
      generalize layL S met = X at *
      obtain ⟨ml, hml⟩ : ∃ k, met.length = k := ⟨_, rfl⟩
      obtain ⟨xl, hxl⟩ : ∃ k, X.length = k := ⟨_, rfl⟩
      rw [hml] at hl1
      rw [hxl] at hl2
      have HML := Lib.hid hml
      have HXL := Lib.hid hxl
      clear hm4 hI4 hp4 hk4 hr4 hlen4 hn4 HL HG hml hxl
      by_cases h0 : qr.stop = 0
      · have h0b : (qr.stop == 0) = true := by simp [h0]
        by_cases h1 : 0 < ml
        · have h1b : decide ((0 : Int) < (ml : Int)) = true := by simp; omega
          by_cases h2 : xl ≤ 64
          · have h2b : decide ((xl : Int) ≤ 64) = true := by simp; omega
            go_wp2_with (go_at_call 59; refine HST.out.mono ?_; rintro e w5 ⟨rfl, rfl⟩)
            (try rw [Exit.noGoto_ret])
            go_ret
            have hr : R = some X := by rw [HE.out, if_pos ⟨h0, by have := HML.out; intro e; rw [e] at this; simp at this; omega, by rw [HXL.out]; exact h2⟩]
            exact ⟨by rw [hr]; rfl, HK4.out, fun S' h => by rw [hr] at h; cases h; exact HI4.out⟩
          · have h2b : decide ((xl : Int) ≤ 64) = false := by simp; omega
            go_wp2_with (go_at_call 59; refine HST.out.mono ?_; rintro e w5 ⟨rfl, rfl⟩)
            (try rw [Exit.noGoto_ret])
            go_ret
            have hr : R = none := by rw [HE.out, if_neg (fun e => h2 (by rw [← HXL.out]; exact e.2.2))]
            exact ⟨by rw [hr]; rfl, HK4.out, fun S' h => by rw [hr] at h; cases h⟩
        · have h1b : decide ((0 : Int) < (ml : Int)) = false := by simp; omega
          go_wp2_with (go_at_call 59; refine HST.out.mono ?_; rintro e w5 ⟨rfl, rfl⟩)
          (try rw [Exit.noGoto_ret])
          go_ret
          have hr : R = none := by rw [HE.out, if_neg (fun e => e.2.1 (List.length_eq_zero_iff.1 (by have := HML.out; omega)))]
          exact ⟨by rw [hr]; rfl, HK4.out, fun S' h => by rw [hr] at h; cases h⟩
      · have h0b : (qr.stop == 0) = false := by simp [h0]
        go_wp2_with (go_at_call 59; refine HST.out.mono ?_; rintro e w5 ⟨rfl, rfl⟩)
        (try rw [Exit.noGoto_ret])
        go_ret
        have hr : R = none := by rw [HE.out, if_neg (fun e => h0 e.1)]
        exact ⟨by rw [hr]; rfl, HK4.out, fun S' h => by rw [hr] at h; cases h⟩
    · obtain ⟨g, rfl⟩ : ∃ g, gk = g + 1 := ⟨gk - 1, by omega⟩
      have HT := Lib.hid (textOf_any HA.out 200 (by omega))
      obtain ⟨⟨s, q1⟩, ht⟩ : ∃ t, qr.text 200 = t := ⟨_, rfl⟩
      rw [ht] at HT
      obtain ⟨⟨id, q2⟩, hx⟩ : ∃ t, q1.word = t := ⟨_, rfl⟩
      rw [recGo_step ht hx] at HG
      clear ht
      simp only at HT
      have hgw : IntKind.u64.wrap (g : Int) = (g : Int) := by rw [IntKind.wrap_u64]; omega
      go_wp2_with fail
      refine HT.out.mono ?_
      rintro e w4 ⟨rfl, hA4, hk4⟩
      have HW := Lib.hid (word_any hA4)
      rw [hx] at HW
      simp only at HW
      clear hx
      go_wp2_with fail
      refine HW.out.mono ?_
      rintro e w5 ⟨rfl, hA5, hk5⟩
      have hkr5 : Kept (· = B) wr w5 := hk4.trans hk5 (fun _ _ e => e)
      have HK5 : Hid (Kept (fun _ => False) w w5) := Lib.hid (HK.out.more hkr5 (fun i (e : i = B) => e ▸ hB))
      have HI5 : Hid (IdsAt w5 w2.heap.size mes mclk met) := Lib.hid (HI.out.kept hkr5 (fun e => by have := HB2.out; omega))
      have HH5 : Hid (IdsAt w5 m es clock S) := Lib.hid (HH.out.kept HK5.out (fun f => f))
      have hr5 := (HK5.out.block r HN.out.1 (fun f => f)).trans HR.out
      have c0 : w5.cell? ⟨r, 0, none⟩ = some (.map (some m)) := by simp [World.cell?, hr5]
      have hlk1 := HI5.out.look s true w5 HI5.out.map
      have HE5 := Lib.hid (errOf_any hA5)
      have HM5 := Lib.hid (refsMay_any s w5)
      have HA5 := Lib.hid hA5
      clear hr5 hA5 hk5 hkr5 hA4 hk4 HT HW
      by_cases h1 : q2.err = 0
      · have h1b : (q2.err != 0) = false := by simp [h1]
        by_cases h2 : (getA s met).isSome = true
        · rw [h2] at hlk1
          have HR0 : Hid (R = none) := Lib.hid (by rw [← HG.out, if_pos (.inr (.inl h2))]; rfl)
          have HKE := HK5
          simp only [if_true] at hlk1
          go_wp2_with (go_at_call 51; refine HE5.out.mono ?_; rintro e w6 ⟨rfl, rfl⟩)
          (try rw [Exit.noGoto_ret])
          go_ret
          exact ⟨by rw [HR0.out]; rfl, HKE.out.mono (fun _ _ f => f.elim), fun S' h => by rw [HR0.out] at h; cases h⟩
        · have h2b : (getA s met).isSome = false := by simpa using h2
          rw [h2b] at hlk1
          simp only [if_true] at hlk1
          by_cases h3 : mayOf s = 0
          · have h3b : (mayOf s != 0) = false := by simp [h3]
            cases hgs : getA s S with
            | none =>
              by_cases h4 : id = 0
              · subst h4
                have HR0 : Hid (R = none) := Lib.hid (by rw [← HG.out, if_neg (by simp [h1, h2, h3]), if_pos ⟨rfl, hgs⟩]; rfl)
                go_wp2_with (first | (go_at_call 51; refine HE5.out.mono ?_; rintro e w6 ⟨rfl, rfl⟩) | (go_at_call 23; refine HM5.out.mono ?_; rintro e w6 ⟨rfl, hk6⟩; have hlk2 := (HH5.out.keptF hk6).look s true w6 (HH5.out.keptF hk6).map; simp only [if_true] at hlk2; rw [hgs] at hlk2; simp only [Option.isSome_none, Option.getD_none] at hlk2; have c06 := hk6.cell c0 (fun f => f)))
                have HKE : Hid (Kept (fun _ => False) w w6) := Lib.hid (HK5.out.more hk6 (fun _ f => f.elim))
                (try rw [Exit.noGoto_ret])
                go_ret
                exact ⟨by rw [HR0.out]; rfl, HKE.out.mono (fun _ _ f => f.elim), fun S' h => by rw [HR0.out] at h; cases h⟩
              · have h4b : ((id : Int) == 0) = false := by simp; omega
                have HG2 : Hid (recEnd S (recGo S g q2 (met ++ [(s, id)])) = R) := Lib.hid (by rw [← HG.out, if_neg (by simp [h1, h2, h3]), if_neg (fun e => h4 e.1)])
                go_wp2_with (first | (go_at_call 51; refine HE5.out.mono ?_; rintro e w6 ⟨rfl, rfl⟩) | (go_at_call 23; refine HM5.out.mono ?_; rintro e w6 ⟨rfl, hk6⟩; have hlk2 := (HH5.out.keptF hk6).look s true w6 (HH5.out.keptF hk6).map; simp only [if_true] at hlk2; rw [hgs] at hlk2; simp only [Option.isSome_none, Option.getD_none, Option.getD_some] at hlk2; have c06 := hk6.cell c0 (fun f => f); obtain ⟨mes2, mclk2, hrunM, hidM⟩ := (HI5.out.keptF hk6).put s id; have hdM := hrunM w6 (HI5.out.keptF hk6).map; have HDM := Lib.hid (hidM w6 (HI5.out.keptF hk6).map); have HMAP := Lib.hid (HI5.out.keptF hk6).map; clear hrunM hidM; have HK6 := Lib.hid hk6))
                have HKP : Hid (Kept (· = w2.heap.size) w6 (setBlock w6 w2.heap.size (.map mes2 mclk2))) := Lib.hid ((Kept.refl (· = w2.heap.size) w6).setBlock (fun _ => rfl) _)
                have HI7 : Hid (IdsAt (setBlock w6 w2.heap.size (.map mes2 mclk2)) w2.heap.size mes2 mclk2 (met ++ [(s, id)])) := Lib.hid (by rw [← putA_of_none (by simpa using h2)]; exact HDM.out)
                have HA7 : Hid (RdrAt (setBlock w6 w2.heap.size (.map mes2 mclk2)) B w1.heap.size q2) := Lib.hid ((HA5.out.kept HK6.out (fun _ f => f.elim)).keptMap HMAP.out HKP.out)
                have HK7 : Hid (Kept (fun _ => False) w (setBlock w6 w2.heap.size (.map mes2 mclk2))) := Lib.hid ((HK5.out.more HK6.out (fun _ f => f.elim)).more HKP.out (fun i (e : i = w2.heap.size) => by have := HS0.out; omega))
                go_roundg g
                case measure => omega
                case rel => exact ⟨q2, met ++ [(s, id)], mes2, mclk2, rfl, by omega, HG2, HA7, HI7, HK7⟩
            | some idS =>
              have HG2 : Hid (recEnd S (recGo S g q2 (met ++ [(s, id)])) = R) := Lib.hid (by rw [← HG.out, if_neg (by simp [h1, h2, h3]), if_neg (fun e => by rw [hgs] at e; cases e.2)])
              by_cases h4 : id = 0
              · have h4b : ((id : Int) == 0) = true := by simp [h4]
                clear h4
                go_wp2_with (first | (go_at_call 51; refine HE5.out.mono ?_; rintro e w6 ⟨rfl, rfl⟩) | (go_at_call 23; refine HM5.out.mono ?_; rintro e w6 ⟨rfl, hk6⟩; have hlk2 := (HH5.out.keptF hk6).look s true w6 (HH5.out.keptF hk6).map; simp only [if_true] at hlk2; rw [hgs] at hlk2; simp only [Option.isSome_some, Option.getD_none, Option.getD_some] at hlk2; have c06 := hk6.cell c0 (fun f => f); obtain ⟨mes2, mclk2, hrunM, hidM⟩ := (HI5.out.keptF hk6).put s id; have hdM := hrunM w6 (HI5.out.keptF hk6).map; have HDM := Lib.hid (hidM w6 (HI5.out.keptF hk6).map); have HMAP := Lib.hid (HI5.out.keptF hk6).map; clear hrunM hidM; have HK6 := Lib.hid hk6))
                have HKP : Hid (Kept (· = w2.heap.size) w6 (setBlock w6 w2.heap.size (.map mes2 mclk2))) := Lib.hid ((Kept.refl (· = w2.heap.size) w6).setBlock (fun _ => rfl) _)
                have HI7 : Hid (IdsAt (setBlock w6 w2.heap.size (.map mes2 mclk2)) w2.heap.size mes2 mclk2 (met ++ [(s, id)])) := Lib.hid (by rw [← putA_of_none (by simpa using h2)]; exact HDM.out)
                have HA7 : Hid (RdrAt (setBlock w6 w2.heap.size (.map mes2 mclk2)) B w1.heap.size q2) := Lib.hid ((HA5.out.kept HK6.out (fun _ f => f.elim)).keptMap HMAP.out HKP.out)
                have HK7 : Hid (Kept (fun _ => False) w (setBlock w6 w2.heap.size (.map mes2 mclk2))) := Lib.hid ((HK5.out.more HK6.out (fun _ f => f.elim)).more HKP.out (fun i (e : i = w2.heap.size) => by have := HS0.out; omega))
                go_roundg g
                case measure => omega
                case rel => exact ⟨q2, met ++ [(s, id)], mes2, mclk2, rfl, by omega, HG2, HA7, HI7, HK7⟩
              · have h4b : ((id : Int) == 0) = false := by simp; omega
                go_wp2_with (first | (go_at_call 51; refine HE5.out.mono ?_; rintro e w6 ⟨rfl, rfl⟩) | (go_at_call 23; refine HM5.out.mono ?_; rintro e w6 ⟨rfl, hk6⟩; have hlk2 := (HH5.out.keptF hk6).look s true w6 (HH5.out.keptF hk6).map; simp only [if_true] at hlk2; rw [hgs] at hlk2; simp only [Option.isSome_some, Option.getD_none, Option.getD_some] at hlk2; have c06 := hk6.cell c0 (fun f => f); obtain ⟨mes2, mclk2, hrunM, hidM⟩ := (HI5.out.keptF hk6).put s id; have hdM := hrunM w6 (HI5.out.keptF hk6).map; have HDM := Lib.hid (hidM w6 (HI5.out.keptF hk6).map); have HMAP := Lib.hid (HI5.out.keptF hk6).map; clear hrunM hidM; have HK6 := Lib.hid hk6))
                have HKP : Hid (Kept (· = w2.heap.size) w6 (setBlock w6 w2.heap.size (.map mes2 mclk2))) := Lib.hid ((Kept.refl (· = w2.heap.size) w6).setBlock (fun _ => rfl) _)
                have HI7 : Hid (IdsAt (setBlock w6 w2.heap.size (.map mes2 mclk2)) w2.heap.size mes2 mclk2 (met ++ [(s, id)])) := Lib.hid (by rw [← putA_of_none (by simpa using h2)]; exact HDM.out)
                have HA7 : Hid (RdrAt (setBlock w6 w2.heap.size (.map mes2 mclk2)) B w1.heap.size q2) := Lib.hid ((HA5.out.kept HK6.out (fun _ f => f.elim)).keptMap HMAP.out HKP.out)
                have HK7 : Hid (Kept (fun _ => False) w (setBlock w6 w2.heap.size (.map mes2 mclk2))) := Lib.hid ((HK5.out.more HK6.out (fun _ f => f.elim)).more HKP.out (fun i (e : i = w2.heap.size) => by have := HS0.out; omega))
                go_roundg g
                case measure => omega
                case rel => exact ⟨q2, met ++ [(s, id)], mes2, mclk2, rfl, by omega, HG2, HA7, HI7, HK7⟩
          · have h3b : (mayOf s != 0) = true := by simp [h3]
            have HR0 : Hid (R = none) := Lib.hid (by rw [← HG.out, if_pos (.inr (.inr h3))]; rfl)
            go_wp2_with (first | (go_at_call 51; refine HE5.out.mono ?_; rintro e w6 ⟨rfl, rfl⟩) | (go_at_call 23; refine HM5.out.mono ?_; rintro e w6 ⟨rfl, hk6⟩))
            have HKE : Hid (Kept (fun _ => False) w w6) := Lib.hid (HK5.out.more hk6 (fun _ f => f.elim))
            (try rw [Exit.noGoto_ret])
            go_ret
            exact ⟨by rw [HR0.out]; rfl, HKE.out.mono (fun _ _ f => f.elim), fun S' h => by rw [HR0.out] at h; cases h⟩
      · have h1b : (q2.err != 0) = true := by simp [h1]
        have HR0 : Hid (R = none) := Lib.hid (by rw [← HG.out, if_pos (.inl h1)]; rfl)
        have HKE := HK5
        simp only [if_true] at hlk1
        go_wp2_with (go_at_call 51; refine HE5.out.mono ?_; rintro e w6 ⟨rfl, rfl⟩)
        (try rw [Exit.noGoto_ret])
        go_ret
        exact ⟨by rw [HR0.out]; rfl, HKE.out.mono (fun _ _ f => f.elim), fun S' h => by rw [HR0.out] at h; cases h⟩
end Go.Proofs.YtjnhkepgoghogaaGreatDoor
