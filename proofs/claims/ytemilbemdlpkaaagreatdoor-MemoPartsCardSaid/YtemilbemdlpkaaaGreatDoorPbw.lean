/- memo: what stands behind Adds on a disk that is not cut. -/
import Derived.Test.YtemilbemdlpkaaaGreatDoorPbv
import Derived.Test.YtemilbemdlpkaaaGreatDoorPad
namespace Go.Proofs.YtemilbemdlpkaaaGreatDoor
open Go.RowKit
set_option linter.unusedSimpArgs false

structure Good18 (fl : ByteArray) (n : Nat) (D : DM) (J : JM) (M : MP) : Prop where
  cut : D.cut = false
  jcut : J.cut = false
  jf : J.file = fl
  mf : M.file = fl
  dead : M.dead = false
  last : M.last = n
  jn : J.recs.length ≤ n
  jall : J.all.length ≤ 25 * n
  jsz : J.size ≤ 36 * n
  jb : (D.bytes fl).length ≤ 36 * n
  writes : D.writes ≤ 20000 * n
  count : D.files.length ≤ 2 * n
  free : ∀ k, n < k → getA (runN fl k) D.files = none
  parts : ∀ x ∈ M.parts, 1 ≤ x.n ∧ x.n ≤ n ∧ (pairsOf x.bs).2 = true ∧ getA (runN fl x.n) D.files = some x.bs
  nums : (M.parts.map (·.n)).Nodup
  plen : M.parts.length ≤ 4
  perm : (M.parts.flatMap fun x => (pairsOf x.bs).1).Perm M.known
  kn : NodupA M.known
  kb : ∀ p ∈ M.known, 0 < p.1 ∧ p.1 < 18446744073709551616 ∧ p.2 < 18446744073709551616

theorem good_new (fl : ByteArray) : Good18 fl 0 disk0 ⟨fl, [], 0, false⟩ ⟨fl, [], [], 0, false⟩ :=
  ⟨rfl, rfl, rfl, rfl, rfl, rfl, by simp, by simp [JM.all], by simp, by simp [DM.bytes, disk0, getA], by simp [disk0], by simp [disk0], fun _ _ => rfl, by simp, by simp, by simp, by simp, by simp [NodupA], by simp⟩

theorem nodup_more {kn fr : List (Nat × Nat)} (h : NodupA kn) (hf : (fr.map (·.1)).Nodup) (hn : ∀ p ∈ fr, getA p.1 kn = none) : NodupA (kn ++ fr) := by
  unfold NodupA at *
  rw [List.map_append, List.nodup_append]
  refine ⟨h, hf, fun a ha b hb e => ?_⟩
  subst e
  obtain ⟨p, hp, rfl⟩ := List.mem_map.1 ha
  obtain ⟨q, hq, hqe⟩ := List.mem_map.1 hb
  have := hn q hq
  exact getA_none this p hp hqe.symm

set_option maxHeartbeats 1000000 in
theorem add_good {fl : ByteArray} {n : Nat} {D : DM} {J : JM} {M : MP} (hfl : mayB fl = true) (hfs : fl.size ≤ 21) (g : Good18 fl n D J M) (hn : n + 1 ≤ 100) (l fr : List (Nat × Nat))
    (hmk : (makeOf l).2 = 0) (hfr : freshOf M.known [] l = some fr) (hlen : fr.length + M.known.length ≤ 1000) (hb : ∀ p ∈ l, p.1 < 18446744073709551616 ∧ p.2 < 18446744073709551616) :
    ∃ n' D' J' M', addM D J M l = (0, D', J', M') ∧ Good18 fl n' D' J' M' ∧ n' ≤ n + 1 ∧ M'.known = M.known ++ fr := by
  obtain ⟨m1, m2, m3⟩ := makeOf_zero hmk
  obtain ⟨s, hs, hsub, hnew⟩ := freshOf_some l [] fr hfr
  rw [List.nil_append] at hs
  subst hs
  unfold addM
  rw [if_neg (by rw [g.dead]; simp), if_neg (by simp [hmk]), hfr]
  simp only
  by_cases h0 : fr = []
  · rw [if_pos h0]
    exact ⟨n, D, J, M, rfl, g, by omega, by rw [h0]; simp⟩
  rw [if_neg h0, if_neg (by omega)]
  have f1 : fr.length ≤ 65536 := by omega
  have f2 : ∀ p ∈ fr, p.1 ≠ 0 := fun p hp => m2 p (hsub.subset hp)
  have f3 : (fr.map (·.1)).Nodup := (hsub.map _).nodup m3
  have hmf := makeOf_of f1 f2 f3
  have hsp := sortedP_perm fr
  have hst := strict_of (sortedP_le fr) ((hsp.map _).nodup_iff.2 f3)
  have hsb : ∀ p ∈ sortedP fr, 0 < p.1 ∧ p.1 < 18446744073709551616 ∧ p.2 < 18446744073709551616 := fun p hp => by
    have hp' := hsp.mem_iff.1 hp
    exact ⟨Nat.pos_of_ne_zero (f2 p hp'), hb p (hsub.subset hp')⟩
  have hpo := rising_of18 hst hsb (by rw [hsp.length_eq]; omega)
  have hnd := nodup_more g.kn f3 hnew
  have hkb : ∀ p ∈ M.known ++ fr, 0 < p.1 ∧ p.1 < 18446744073709551616 ∧ p.2 < 18446744073709551616 := fun p hp => by
    rcases List.mem_append.1 hp with hp | hp
    · exact g.kb p hp
    · exact hsb p (hsp.mem_iff.2 hp)
  have hbsl := bytesOf_le (sortedP fr) (by rw [hsp.length_eq]; omega)
  rw [hsp.length_eq] at hbsl
  have hcnt := g.count
  have hjb := g.jb
  have hwr := g.writes
  unfold writeM
  rw [hmf]
  simp only [ne_eq, not_true_eq_false, if_false]
  by_cases h4 : M.parts.length = 4
  · rw [if_pos h4]
    have hX : allP (bytesOf (sortedP fr) :: M.parts.map (·.bs)) = sortedP fr ++ M.parts.flatMap fun x => (pairsOf x.bs).1 := by
      unfold allP
      rw [List.flatMap_cons, hpo, List.flatMap_map]
    have hXp : (allP (bytesOf (sortedP fr) :: M.parts.map (·.bs))).Perm (M.known ++ fr) := by
      rw [hX]
      exact (hsp.append g.perm).trans List.perm_append_comm
    have hok : allOk (bytesOf (sortedP fr) :: M.parts.map (·.bs)) = true := by
      unfold allOk
      rw [List.all_eq_true]
      intro x hx
      rcases List.mem_cons.1 hx with rfl | hx
      · rw [hpo]
      · obtain ⟨y, hy, rfl⟩ := List.mem_map.1 hx
        exact (g.parts y hy).2.2.1
    have hXn : ((allP (bytesOf (sortedP fr) :: M.parts.map (·.bs))).map (·.1)).Nodup := (hXp.map _).nodup_iff.2 hnd
    obtain ⟨r1, r2⟩ := sortedR_perm hXn
    obtain ⟨S, hS⟩ : ∃ S, sortedR (allP (bytesOf (sortedP fr) :: M.parts.map (·.bs))) = S := ⟨_, rfl⟩
    rw [hS] at r1 r2
    have r3 := r2.trans hXp
    have hSl : S.length = M.known.length + fr.length := by rw [r3.length_eq, List.length_append]
    have hmg : mergeOf (bytesOf (sortedP fr) :: M.parts.map (·.bs)) = (bytesOf S, 0) := by
      unfold mergeOf
      rw [if_pos hok, hS, if_neg (by omega)]
    rw [hmg]
    simp only [not_true_eq_false, if_false]
    have hpS := rising_of18 r1 (fun p hp => hkb p (r3.mem_iff.1 hp)) (by omega)
    have hbS := bytesOf_le S (by omega)
    obtain ⟨D', q, hlay, hq1, hq2, hq3, hc', hw', hf'⟩ := lay_good hfl hfs g.cut g.jf g.mf g.last (by omega) (g.free (n + 1) (by omega)) (by omega) (by omega) (bytesOf S) (bytesOf_ne S) (by omega) [] (by simp) (by simp)
    rw [hlay]
    unfold doneM
    simp only [ne_eq, not_true_eq_false, if_false]
    have hgp : (upL (M.parts.map (·.n))).Perm (M.parts.map (·.n)) := List.mergeSort_perm _ _
    have hfile : ∀ s, s ≠ fl → s ≠ runN fl (n + 1) → getA s D'.files = getA s D.files := fun s h1 h2 => by rw [hf', getA_putA_ne h1, getA_putA_ne h2]
    obtain ⟨D2, e1, e2, e3, e4, e5⟩ := remove_good (fl := fl) (upL (M.parts.map (·.n))) D' hc' (hgp.nodup_iff.2 g.nums) (fun x hx => by
      obtain ⟨y, hy, rfl⟩ := List.mem_map.1 (hgp.mem_iff.1 hx)
      obtain ⟨y1, y2, y3, y4⟩ := g.parts y hy
      rw [hfile _ (runN_ne_file fl y.n) (fun e => by have := runN_inj e; omega), y4]
      simp)
    rw [g.mf, e1]
    have hlt : ∀ x ∈ upL (M.parts.map (·.n)), x ≤ n := fun x hx => by
      obtain ⟨y, hy, rfl⟩ := List.mem_map.1 (hgp.mem_iff.1 hx)
      exact (g.parts y hy).2.1
    have hgl : (upL (M.parts.map (·.n))).length = 4 := by rw [hgp.length_eq, List.length_map, h4]
    have h5f : getA fl D2.files = some (D.bytes fl ++ recB (recordB [n + 1])) := by
      rw [e5 fl (fun x _ e => runN_ne_file fl x e.symm), hf', getA_putA_same]
      rfl
    have h5r : getA (runN fl (n + 1)) D2.files = some (bytesOf S) := by
      rw [e5 _ (fun x hx e => by have := runN_inj e; have := hlt x hx; omega), hf', getA_putA_ne (runN_ne_file fl (n + 1)), getA_putA_same]
    have hcl : D'.files.length ≤ D.files.length + 2 := by
      rw [hf']
      have a1 := putA_length_le fl (D.bytes fl ++ recB (recordB [n + 1])) (putA (runN fl (n + 1)) (bytesOf S) D.files)
      have a2 := putA_length_le (runN fl (n + 1)) (bytesOf S) D.files
      simp only [List.map_nil]
      omega
    refine ⟨n + 1, D2, J.add (recordB [n + 1]) q, ⟨fl, M.known ++ fr, [⟨n + 1, bytesOf S⟩], n + 1, false⟩, ?_, ⟨e2, g.jcut, g.jf, rfl, rfl, rfl, ?_, ?_, ?_, ?_, ?_, ?_, fun k hk => ?_, fun x hx => ?_, by simp, by simp, ?_, hnd, hkb⟩, Nat.le_refl _, rfl⟩
    · simp [g.mf]
    · have := g.jn; simp only [JM.add, List.length_append, List.length_singleton]; omega
    · have := g.jall; simp only [List.map_nil] at hq2; rw [JM.add_all, List.length_append]; omega
    · have := g.jsz; show J.size + q ≤ _; omega
    · unfold DM.bytes
      rw [h5f]
      have hq4 : (recB (recordB [n + 1])).length = q := hq3.symm
      rw [Option.getD_some, List.length_append, hq4]
      omega
    · rw [hgl] at e3; push_cast at *; omega
    · omega
    · rw [e5 _ (fun x hx e => by have := runN_inj e; have := hlt x hx; omega), hfile _ (runN_ne_file fl k) (fun e => by have := runN_inj e; omega)]
      exact g.free k (by omega)
    · rw [List.mem_singleton.1 hx]
      exact ⟨by simp, Nat.le_refl _, by rw [hpS], h5r⟩
    · simp only [List.flatMap_cons, List.flatMap_nil, List.append_nil, hpS]
      exact r3
  · rw [if_neg h4]
    have hpl := g.plen
    obtain ⟨D', q, hlay, hq1, hq2, hq3, hc', hw', hf'⟩ := lay_good hfl hfs g.cut g.jf g.mf g.last (by omega) (g.free (n + 1) (by omega)) (by omega) (by omega) (bytesOf (sortedP fr)) (bytesOf_ne _) (by omega) M.parts (by omega) (fun x hx => by have := (g.parts x hx).2.1; omega)
    rw [hlay]
    unfold doneM
    have hu : upL [] = [] := by simp [upL]
    simp only [ne_eq, not_true_eq_false, if_false, hu, removeM]
    have hfile : ∀ s, s ≠ fl → s ≠ runN fl (n + 1) → getA s D'.files = getA s D.files := fun s h1 h2 => by rw [hf', getA_putA_ne h1, getA_putA_ne h2]
    have h5f : getA fl D'.files = some (D.bytes fl ++ recB (recordB ((n + 1) :: M.parts.map (·.n)))) := by rw [hf', getA_putA_same]
    have h5r : getA (runN fl (n + 1)) D'.files = some (bytesOf (sortedP fr)) := by rw [hf', getA_putA_ne (runN_ne_file fl (n + 1)), getA_putA_same]
    have hcl : D'.files.length ≤ D.files.length + 2 := by
      rw [hf']
      have a1 := putA_length_le fl (D.bytes fl ++ recB (recordB ((n + 1) :: M.parts.map (·.n)))) (putA (runN fl (n + 1)) (bytesOf (sortedP fr)) D.files)
      have a2 := putA_length_le (runN fl (n + 1)) (bytesOf (sortedP fr)) D.files
      omega
    refine ⟨n + 1, D', J.add (recordB ((n + 1) :: M.parts.map (·.n))) q, ⟨fl, M.known ++ fr, ⟨n + 1, bytesOf (sortedP fr)⟩ :: M.parts, n + 1, false⟩, ?_, ⟨hc', g.jcut, g.jf, rfl, rfl, rfl, ?_, ?_, ?_, ?_, ?_, ?_, fun k hk => ?_, fun x hx => ?_, ?_, ?_, ?_, hnd, hkb⟩, Nat.le_refl _, rfl⟩
    · simp [g.mf]
    · have := g.jn; simp only [JM.add, List.length_append, List.length_singleton]; omega
    · have := g.jall; rw [JM.add_all, List.length_append]; omega
    · have := g.jsz; show J.size + q ≤ _; omega
    · unfold DM.bytes
      rw [h5f, Option.getD_some, List.length_append, ← hq3]
      omega
    · push_cast at *; omega
    · omega
    · rw [hfile _ (runN_ne_file fl k) (fun e => by have := runN_inj e; omega)]
      exact g.free k (by omega)
    · rcases List.mem_cons.1 hx with rfl | hx
      · exact ⟨by simp, Nat.le_refl _, by rw [hpo], h5r⟩
      · obtain ⟨y1, y2, y3, y4⟩ := g.parts x hx
        exact ⟨y1, by omega, y3, by rw [hfile _ (runN_ne_file fl x.n) (fun e => by have := runN_inj e; omega), y4]⟩
    · rw [List.map_cons, List.nodup_cons]
      refine ⟨fun hm => ?_, g.nums⟩
      obtain ⟨y, hy, hye⟩ := List.mem_map.1 hm
      have := (g.parts y hy).2.1
      simp only at hye
      omega
    · rw [List.length_cons]; omega
    · simp only [List.flatMap_cons, hpo]
      exact (hsp.append g.perm).trans List.perm_append_comm
end Go.Proofs.YtemilbemdlpkaaaGreatDoor

/- a slice of whole numbers that came in. -/
namespace Go.Proofs.YtemilbemdlpkaaaGreatDoor
open Go.RowKit
def IsZ18 (w : World) (v : Value) (l : List Int) : Prop :=
  ∃ a c, v = .slice a l.length c ∧ l.length ≤ c ∧ c ≤ maxLen ∧ (l = [] ∨ ∃ g o, a = some ⟨g, o, none⟩ ∧ g < w.heap.size ∧ ∀ k (hk : k < l.length), w.cell? ⟨g, o + k, none⟩ = some (.int .i64 l[k]))
theorem IsZ18.kept {G : Nat → Prop} {w w' : World} {v : Value} {l : List Int} (h : IsZ18 w v l) (hk : Kept G w w') (hG : ∀ k, k < w.heap.size → ¬ G k) : IsZ18 w' v l := by
  obtain ⟨a, c, e, h1, h2, h3⟩ := h
  refine ⟨a, c, e, h1, h2, ?_⟩
  rcases h3 with h3 | ⟨g, o, rfl, hg, hc⟩
  · exact .inl h3
  · exact .inr ⟨g, o, rfl, Nat.lt_of_lt_of_le hg hk.size, fun k hkk => hk.cell (hc k hkk) (hG g hg)⟩
theorem IsZ18.at {w : World} {a : Option Addr} {n c : Nat} {l : List Int} (h : IsZ18 w (.slice a n c) l) {k : Nat} (hk : k < l.length) : ∃ g o, a = some ⟨g, o, none⟩ ∧ g < w.heap.size ∧ w.cell? ⟨g, o + k, none⟩ = some (.int .i64 l[k]) := by
  obtain ⟨a', c', e, h1, h2, h3⟩ := h
  cases e
  obtain ⟨g, o, rfl, hg, hc⟩ := h3.resolve_left (fun e => by rw [e] at hk; simp at hk)
  exact ⟨g, o, rfl, hg, hc k hk⟩
theorem IsZ18.len {w : World} {a : Option Addr} {n c : Nat} {l : List Int} (h : IsZ18 w (.slice a n c) l) : n = l.length ∧ n ≤ c ∧ n ≤ 9223372036854775807 := by
  obtain ⟨a', c', e, h1, h2, h3⟩ := h
  cases e
  unfold maxLen at h2
  exact ⟨rfl, h1, by omega⟩
end Go.Proofs.YtemilbemdlpkaaaGreatDoor

/- memo: a new one; Add on a disk that is not cut. -/
namespace Go.Proofs.YtemilbemdlpkaaaGreatDoor
open Go.RowKit Go.ChangeMaps Go.MapKept
set_option linter.unusedSimpArgs false

theorem openNew_any {w : World} {b m : Nat} (hd : DiskAt w b m #[] 0 ⟨[], 0, 0, false⟩) (key : Nat) (hk0 : key ≠ 0) (hk64 : key < 18446744073709551616) (B : Nat) (hT : TabB B w) (hb : B ≤ b) (hm : B ≤ m) (hBw : B ≤ w.heap.size) :
    Calls Tryz.prog 10 #[.pointer (some ⟨b, 0, none⟩), .int .u64 key] w fun e w' => ∃ a, e = .returned (.tuple #[.pointer (some ⟨a.p, 0, none⟩), .int .i64 0]) ∧ MemR w' a disk0 ⟨fileN key, [], 0, false⟩ ⟨fileN key, [], [], 0, false⟩ ∧
      (∀ k, a.F k → k = b ∨ k = m ∨ w.heap.size ≤ k) ∧ (∀ k, a.P k → w.heap.size ≤ k) ∧ Kept (fun k => k = b ∨ k = m) w w' := by
  have hdf : ∀ k, diskF b m #[] k → k = b ∨ k = m := by
    rintro k (e | e | ⟨e, he, -⟩)
    · exact .inl e
    · exact .inr e
    · simp at he
  have hOP := mopen_any hd key hk0 hk64 B hT (fun k hk => by rcases hdf k hk with e | e <;> omega) hBw (by show (0 : Int) < _; omega) (by
    have h2 : (openJ (⟨[], 0, 0, false⟩ : DM) (fileN key)).2.2.recs = [] := by
      unfold openJ
      rw [show DM.bytes (⟨[], 0, 0, false⟩ : DM) (fileN key) = [] from rfl]
      unfold jOpen openOf
      simp [jGo]
    rw [h2]
    exact read_nil18)
  have hO : openM (⟨[], 0, 0, false⟩ : DM) (fileN key) = (0, disk0, ⟨fileN key, [], 0, false⟩, some ⟨fileN key, [], [], 0, false⟩) := openM_new (fileN key)
  rw [hO] at hOP
  refine hOP.mono ?_
  rintro e w2 ⟨es', clk', hA2, -, hM⟩
  obtain ⟨-, a, rfl, hR, hab, ham, haes, hF, hP⟩ := hM _ rfl
  refine ⟨a, rfl, hR, fun k hk => ?_, hP, hA2.kept.mono (fun k _ h => hdf k h)⟩
  rcases hF k hk with h1 | h1
  · rcases hA2.foot k h1 with h2 | h2
    · rcases hdf k h2 with e | e
      · exact .inl e
      · exact .inr (.inl e)
    · exact .inr (.inr h2)
  · exact .inr (.inr h1)
theorem addGood_any {fl : ByteArray} {n : Nat} {w : World} {a : MAd} {D : DM} {J : JM} {M : MP} (h : MemR w a D J M) (g : Good18 fl n D J M) (hfl : mayB fl = true) (hfs : fl.size ≤ 21) (hn : n + 1 ≤ 100) (B : Nat) (hT : TabB B w) (hBF : ∀ k, a.F k → B ≤ k) (hBw : B ≤ w.heap.size)
    (la : Option Addr) (lc ll : Nat) (l fr : List (Nat × Nat)) (hll : l.length = ll) (hl : IsP w (.slice la ll lc) l) (hmk : (makeOf l).2 = 0) (hfr : freshOf M.known [] l = some fr) (hlen : fr.length + M.known.length ≤ 1000) :
    Calls Tryz.prog 12 #[.pointer (some ⟨a.p, 0, none⟩), .slice la ll lc] w fun e w' => e = .returned (.int .i64 0) ∧ ∃ a' n' D' J' M', MemR w' a' D' J' M' ∧ Good18 fl n' D' J' M' ∧ n' ≤ n + 1 ∧ M'.known = M.known ++ fr ∧ a'.p = a.p ∧
      (∀ k, a'.F k → a.F k ∨ w.heap.size ≤ k) ∧ (∀ k, a'.P k → a.P k ∨ w.heap.size ≤ k) ∧ Kept a.F w w' := by
  subst hll
  have hb : ∀ p ∈ l, p.1 < 18446744073709551616 ∧ p.2 < 18446744073709551616 := by obtain ⟨_, _, _, _, _, h3, _⟩ := hl; exact h3
  obtain ⟨n', D', J', M', h1, h2, h3, h4⟩ := add_good hfl hfs g hn l fr hmk hfr hlen hb
  have hadd := madd_any h (fun _ => g.jcut) B hT hBF hBw la lc l hl (by have := (makeOf_zero hmk).1; omega) (by rw [g.last]; omega) ⟨by have := g.jall; omega, by have := g.jsz; omega, by have := g.jn; omega⟩ (by have := g.writes; omega)
  rw [h1] at hadd
  refine hadd.mono ?_
  rintro e w' ⟨rfl, a', r1, r2, -, -, -, -, r3, r4, r5⟩
  exact ⟨rfl, a', n', D', J', M', r1, h2, h3, h4, r2, r3, r4, r5⟩
/-- Two memos that write apart. -/
def Apart18 (a c : MAd) : Prop := ∀ k, c.F k ∨ c.P k → ¬ a.F k
theorem MemR.other {w w' : World} {a c : MAd} {D : DM} {J : JM} {M : MP} (h : MemR w c D J M) (hk : Kept a.F w w') (hs : Apart18 a c) : MemR w' c D J M := h.kept hk (fun k hk' => hs k hk')
theorem Apart18.grow {w : World} {a a' c : MAd} {D : DM} {J : JM} {M : MP} (h : MemR w c D J M) (hs : Apart18 a c) (hF : ∀ k, a'.F k → a.F k ∨ w.heap.size ≤ k) : Apart18 a' c := fun k hk hf => by
  rcases hF k hf with h1 | h1
  · exact hs k hk h1
  · rcases hk with h2 | h2
    · have := h.lt.1 k h2; omega
    · have := h.lt.2 k h2; omega
theorem Apart18.grow2 {w : World} {a c c' : MAd} {D : DM} {J : JM} {M : MP} (h : MemR w a D J M) (hs : Apart18 a c) (hF : ∀ k, c'.F k → c.F k ∨ w.heap.size ≤ k) (hP : ∀ k, c'.P k → c.P k ∨ w.heap.size ≤ k) : Apart18 a c' := fun k hk hf => by
  have hlt := h.lt.1 k hf
  rcases hk with h2 | h2
  · rcases hF k h2 with h3 | h3
    · exact hs k (.inl h3) hf
    · omega
  · rcases hP k h2 with h3 | h3
    · exact hs k (.inr h3) hf
    · omega

/-! ### parts of a row -/
theorem IsP.mid {w : World} {ra : Option Addr} {rc : Nat} {L : List (Nat × Nat)} (h : IsP w (.slice ra L.length rc) L) {x : Nat} (hx : x ≤ L.length) :
    IsP w (.slice (ra.map fun a => a.add (x * 2)) (L.length - x) (rc - x)) (L.drop x) := by
  obtain ⟨a', c', he, h1, h2, h3, h4⟩ := h
  cases he
  refine ⟨_, _, by rw [List.length_drop], by rw [List.length_drop]; omega, by omega, fun p hp => h3 p (List.mem_of_mem_drop hp), ?_⟩
  rcases h4 with rfl | ⟨g, o, rfl, hg, hc⟩
  · left; simp
  · right
    refine ⟨g, o + x * 2, by simp [addr_add], hg, fun i u hu => ?_⟩
    have e : flatP L = flatP (L.take x) ++ flatP (L.drop x) := by rw [← flatP_append, List.take_append_drop]
    have hl : (flatP (L.take x)).length = x * 2 := by rw [flatP_length, List.length_take, Nat.min_eq_left hx]
    have := hc (x * 2 + i) u (by rw [e, List.getElem?_append_right (by omega), hl, show x * 2 + i - x * 2 = i from by omega]; exact hu)
    rwa [← Nat.add_assoc] at this
end Go.Proofs.YtemilbemdlpkaaaGreatDoor
