/- refs: what Set leaves in the file leads back; plain. -/
import Derived.Test.YtjnhkepgoghogaaGreatDoorRsG
import Derived.Test.YtjnhkepgoghogaaGreatDoorDiskH
import Derived.Test.YtjnhkepgoghogaaGreatDoorRsI
import Derived.Test.YtjnhkepgoghogaaGreatDoorRsN
namespace Go.Proofs.YtjnhkepgoghogaaGreatDoor
set_option linter.unusedSimpArgs false

theorem mayB_refs : mayB refsB = true := by decide +kernel
theorem DM.raw_free {D : DM} (h : D.cut = false) : D.raw = some { D with writes := D.writes + 1 } := by unfold DM.raw; rw [if_neg (by rw [h]; decide)]
theorem DM.bytes_raw {D D' : DM} (h : D.raw = some D') (hD : D.Ok) (s : ByteArray) : D'.bytes s = D.bytes s := by
  obtain ⟨-, -, h3, -⟩ := DM.raw_ok hD h
  unfold DM.bytes; rw [h3]
/-- What stands in the file behind pieces: all, or the beginning. -/
theorem pieces_leave (s : ByteArray) (hs : mayB s = true) (bs : List UInt8) (D : DM) (hD : D.Ok) (hl : (D.bytes s).length + bs.length ≤ 4194304) (hc : getA s D.files = none → D.files.length < 256) :
    (DM.pieces s bs D).2.Ok ∧ (DM.pieces s bs D).2.cut = D.cut ∧ (DM.pieces s bs D).2.writes ≤ D.writes + bs.length ∧ (getA s (DM.pieces s bs D).2.files = none → (DM.pieces s bs D).2.files = D.files) ∧
      (((DM.pieces s bs D).1 = 0 ∧ (DM.pieces s bs D).2.bytes s = D.bytes s ++ bs) ∨
       ((DM.pieces s bs D).1 = 6 ∧ D.cut = true ∧ ∃ q, q <+: bs ∧ q.length < bs.length ∧ (DM.pieces s bs D).2.bytes s = D.bytes s ++ q)) := by
  induction hn : bs.length using Nat.strongRecOn generalizing bs D with
  | _ n ih =>
    by_cases hb : bs = []
    · subst hb
      rw [DM.pieces_nil]
      exact ⟨hD, rfl, by simp at hn; subst hn; simp, fun _ => rfl, .inl ⟨rfl, by simp⟩⟩
    · have hpos : 0 < bs.length := List.length_pos_iff.2 hb
      cases hr : D.raw with
      | none =>
        rw [DM.pieces_no hb hr]
        refine ⟨hD, rfl, by simp only []; omega, fun _ => rfl, .inr ⟨rfl, ?_, [], List.nil_prefix, by simp; omega, by simp⟩⟩
        unfold DM.raw at hr
        split at hr
        · assumption
        · cases hr
      | some D1 =>
        obtain ⟨ho1, hw1, hf1, hc1⟩ := DM.raw_ok hD hr
        rw [DM.pieces_step hb hr (.inl rfl)]
        have hb1 : D1.bytes s = D.bytes s := DM.bytes_raw hr hD s
        rw [hb1]
        have ht : (bs.take 32).length + (bs.drop 32).length = bs.length := by rw [← List.length_append, List.take_append_drop]
        have ho2 : (D1.put s (D.bytes s ++ bs.take 32)).Ok := DM.put_ok ho1 hs (by rw [List.length_append]; omega) (fun e => by rw [hf1] at e ⊢; exact hc e)
        have hlt : (bs.drop 32).length < n := by rw [List.length_drop]; omega
        have := ih (bs.drop 32).length hlt (bs.drop 32) (D1.put s (D.bytes s ++ bs.take 32)) ho2 (by rw [DM.bytes_put, List.length_append]; omega) (fun e => by rw [DM.get_put] at e; cases e) rfl
        obtain ⟨k1, k2, k3, k5, k4⟩ := this
        have hpw : (D1.put s (D.bytes s ++ bs.take 32)).writes = D.writes + 1 := hw1
        have hpc : (D1.put s (D.bytes s ++ bs.take 32)).cut = D.cut := hc1
        rw [DM.bytes_put] at k4
        have hle : (1 : Int) + ((bs.drop 32).length : Int) ≤ (n : Int) := by omega
        refine ⟨k1, k2.trans hpc, by rw [hpw] at k3; omega, (fun e => by
          have h7 := k5 e
          rw [h7, DM.get_put] at e
          cases e), ?_⟩
        rcases k4 with ⟨h1, h2⟩ | ⟨h1, h2, q, h3, h4, h5⟩
        · exact .inl ⟨h1, by rw [h2, List.append_assoc, List.take_append_drop]⟩
        · refine .inr ⟨h1, hpc ▸ h2, bs.take 32 ++ q, ?_, by rw [List.length_append]; omega, by rw [h5, List.append_assoc]⟩
          obtain ⟨t, ht2⟩ := h3
          exact ⟨t, by rw [List.append_assoc, ht2, List.take_append_drop]⟩
theorem append_leave (s : ByteArray) (hs : mayB s = true) (bs : List UInt8) (hb : bs ≠ []) (D : DM) (hl : (D.bytes s).length + bs.length ≤ 4194304) (hc : getA s D.files = none → D.files.length < 256) :
    D.append s bs = DM.pieces s bs D := by
  unfold DM.append
  rw [if_neg (by rw [hs]; decide), if_neg (fun e => by have := hc e.1; omega), if_neg (by omega), if_neg (fun e => hb e.1)]

/-- The file leads back to the refs. -/
structure FileOk (D : DM) (J : JM) (S : IdsL) : Prop where
  ok : D.Ok
  room : getA refsB D.files = none → D.files.length < 256
  cut : J.cut = false
  file : J.file = refsB
  recs : ∀ p ∈ J.recs, p.length ≤ 262144
  size : J.size = (J.recs.map recB).flatten.length
  bytes : D.bytes refsB = (J.recs.map recB).flatten
  back : ∃ T, replay J.recs = some T ∧ T.Perm S
  names : ∀ p ∈ S, mayOf p.1 = 0 ∧ p.2 ≠ 0 ∧ p.2 < 18446744073709551616
  most : S.length ≤ 64
theorem recB_ge (p : List UInt8) : p.length ≤ (recB p).length := by
  rw [recB_eq, List.length_append, List.length_append]; omega
theorem flat_le (l : List (List UInt8)) : l.flatten.length ≤ (l.map recB).flatten.length := by
  induction l with
  | nil => simp
  | cons x l ih => have := recB_ge x; simp only [List.map_cons, List.flatten_cons, List.length_append]; omega
theorem FileOk.nodup {D : DM} {J : JM} {S : IdsL} (h : FileOk D J S) : NodupA S := by
  obtain ⟨T, hT, hp⟩ := h.back
  exact (replay_isNodup hT).perm hp
theorem FileOk.small {D : DM} {J : JM} {S : IdsL} (h : FileOk D J S) : J.all.length ≤ J.size ∧ J.recs.length ≤ J.size := by
  have h1 := flat_le J.recs
  have h2 := recB_flat_len J.recs
  have h3 := h.size
  unfold JM.all
  omega
/-- A record that is written whole. -/
theorem FileOk.added {D : DM} {J : JM} {S : IdsL} (h : FileOk D J S) {D' : DM} (hD : D'.Ok) (hr : getA refsB D'.files ≠ none) {cs : IdsL} (hb : D'.bytes refsB = D.bytes refsB ++ recB (recOf cs)) (hl : (recOf cs).length ≤ 262144) (hR : ∀ T, T.Perm S → recR T (recOf cs) = some (layL T cs))
    (hc : NodupA cs) (hn : ∀ c ∈ cs, mayOf c.1 = 0 ∧ c.2 < 18446744073709551616) (hm : (layL S cs).length ≤ 64) : FileOk D' (J.add (recOf cs) (recB (recOf cs)).length) (layL S cs) := by
  obtain ⟨T, hT, hp⟩ := h.back
  have hTn := replay_isNodup hT
  refine ⟨hD, fun e => absurd e hr, h.cut, h.file, fun p hp => ?_, ?_, ?_, ⟨layL T cs, ?_, layL_perm2 hTn hc hp⟩, fun p hp => ?_, hm⟩
  · rcases List.mem_append.1 hp with hp | hp
    · exact h.recs p hp
    · rw [List.mem_singleton.1 hp]; exact hl
  · show J.size + _ = _
    simp only [JM.add, List.map_append, List.flatten_append, List.length_append, List.map_cons, List.map_nil, List.flatten_cons, List.flatten_nil, List.append_nil, List.length_nil, Nat.add_zero, h.size]
  · rw [hb, h.bytes]
    simp [JM.add]
  · show replay (J.recs ++ [recOf cs]) = _
    rw [replay_snoc, hT]
    exact hR T hp
  · have hg : getA p.1 (layL S cs) = some p.2 := getA_of_mem (layL_nodup h.nodup cs) hp
    rw [getA_layL h.nodup hc] at hg
    cases hq : getA p.1 cs with
    | none =>
      rw [hq] at hg
      exact h.names p (getA_mem hg)
    | some x =>
      rw [hq] at hg
      simp only at hg
      split at hg
      · cases hg
      · rename_i hx
        cases hg
        have := hn _ (getA_mem hq)
        exact ⟨this.1, hx, this.2⟩

theorem checkOf_ne (s : ByteArray) : (checkOf s).1 ≠ 6 := by
  unfold checkOf
  split
  · decide
  · split
    · decide
    · split <;> simp
theorem pathGo_ne : ∀ (i : Nat) (p : Int) (l : List ByteArray), (pathGo i p l).1 ≠ 6
  | _, _, [] => by simp [pathGo]
  | i, p, s :: l => by
    unfold pathGo
    split
    · simp
    · split
      · exact checkOf_ne s
      · exact pathGo_ne _ _ l
theorem mayOf_ne (s : ByteArray) : mayOf s ≠ 6 := by
  unfold mayOf
  split
  · unfold pathOf
    split
    · decide
    · exact pathGo_ne _ _ _
  · split <;> decide
theorem scanGo_ne {S : IdsL} : ∀ (l : IdsL) (st : ScanS), (scanGo S l st).1 ≠ 6
  | [], _ => by simp [scanGo]
  | c :: l, st => by
    rw [scanGo]
    by_cases h1 : mayOf c.1 ≠ 0
    · rw [if_pos h1]; exact mayOf_ne _
    rw [if_neg h1]
    by_cases h2 : (getA c.1 st.met).getD false = true
    · rw [if_pos h2]; simp
    rw [if_neg h2]
    by_cases h3 : c.2 = 0 ∧ getA c.1 S = none
    · rw [if_pos h3]; simp
    rw [if_neg h3]
    exact scanGo_ne l _
theorem setErr_ne (S l : IdsL) : setErr S l ≠ 6 := by
  unfold setErr
  split
  · exact scanGo_ne _ _
  · split <;> decide
theorem scanGo_ids {S : IdsL} : ∀ (l : IdsL) (st : ScanS), (∀ p ∈ l, p.2 < 18446744073709551616) → (∀ c ∈ st.cs, c.2 < 18446744073709551616) → ∀ c ∈ (scanGo S l st).2.cs, c.2 < 18446744073709551616
  | [], _, _, h2 => by simpa [scanGo] using h2
  | c :: l, st, h1, h2 => by
    rw [scanGo]
    by_cases h3 : mayOf c.1 ≠ 0
    · rw [if_pos h3]; exact h2
    rw [if_neg h3]
    by_cases h4 : (getA c.1 st.met).getD false = true
    · rw [if_pos h4]; exact h2
    rw [if_neg h4]
    by_cases h5 : c.2 = 0 ∧ getA c.1 S = none
    · rw [if_pos h5]; exact h2
    rw [if_neg h5]
    refine scanGo_ids l _ (fun p hp => h1 p (by simp [hp])) ?_
    simp only
    split
    · exact h2
    · intro x hx
      rcases List.mem_append.1 hx with hx | hx
      · exact h2 x hx
      · rw [List.mem_singleton.1 hx]; exact h1 c (by simp)

/-- What is known behind a Set. -/
structure SetOk (D : DM) (J : JM) (S l : IdsL) (O : Int × DM × JM × IdsL) : Prop where
  cut : O.2.1.cut = D.cut
  writes : O.2.1.writes ≤ D.writes + 250000
  leave : (O.1 = setErr S l ∧ O.2.2.2 = (if setErr S l = 0 then layL S (scanOf S l).2.cs else S) ∧ FileOk O.2.1 O.2.2.1 O.2.2.2 ∧ O.2.2.1.size ≤ J.size + 20 + 210 * l.length ∧ ((scanOf S l).2.cs = [] → O.2.1 = D ∧ O.2.2.1 = J)) ∨
    (D.cut = true ∧ O.1 = 6 ∧ setErr S l = 0 ∧ O.2.2.2 = S ∧ O.2.1.Ok ∧ (getA refsB O.2.1.files = none → O.2.1.files.length < 256) ∧ ∃ p q, p.length ≤ 262144 ∧ q <+: recB p ∧ q.length < (recB p).length ∧ O.2.1.bytes refsB = D.bytes refsB ++ q)

theorem set_plain {D : DM} {J : JM} {S l : IdsL} (h : FileOk D J S) (hl : l.length ≤ 1000) (hid : ∀ p ∈ l, p.2 < 18446744073709551616) (hz : J.size + 250000 ≤ 4194304) : SetOk D J S l (setR D J S l) := by
  have hsc := scanOf_ok S l
  have hlen : (scanOf S l).2.cs.length ≤ l.length := by have := scanGo_len (S := S) (l := l) (st := ⟨[], []⟩); unfold scanOf; simpa using this
  have hids : ∀ c ∈ (scanOf S l).2.cs, c.2 < 18446744073709551616 := scanGo_ids l ⟨[], []⟩ hid (by simp)
  unfold setR setOf
  have same : ∀ e : Int, e = setErr S l → (if setErr S l = 0 then layL S (scanOf S l).2.cs else S) = S → SetOk D J S l (e, D, J, S) := fun e he hS => ⟨rfl, by simp only []; omega, .inl ⟨he, hS.symm, h, by simp only []; omega, fun _ => ⟨rfl, rfl⟩⟩⟩
  by_cases h1 : (scanOf S l).1 ≠ 0
  · rw [if_pos h1]
    have he : setErr S l = (scanOf S l).1 := by unfold setErr; rw [if_pos h1]
    exact same _ he.symm (by rw [he, if_neg h1])
  rw [if_neg h1]
  by_cases h2 : 64 < (layL S (scanOf S l).2.cs).length
  · rw [if_pos h2]
    have he : setErr S l = 3 := by unfold setErr; rw [if_neg h1, if_pos h2]
    exact same _ he.symm (by rw [he]; rfl)
  rw [if_neg h2]
  have he : setErr S l = 0 := by unfold setErr; rw [if_neg h1, if_neg h2]
  by_cases h3 : (scanOf S l).2.cs = []
  · rw [if_pos h3]
    exact same _ he.symm (by rw [he, h3]; rfl)
  rw [if_neg h3]
  generalize hcs : (scanOf S l).2.cs = cs at *
  have hpay := payB_len cs (fun c hc => path_size (hsc.may c (hcs ▸ hc)))
  have hul := uintB_len cs.length 2 (by omega) (by omega)
  have hrl : (recOf cs).length ≤ 2 + 210 * l.length := by unfold recOf; rw [List.length_append]; have := Nat.mul_le_mul_right 210 hlen; omega
  have hrb := recB_length (recOf cs) (by omega)
  have happ : D.append J.file (recB (recOf cs)) = DM.pieces refsB (recB (recOf cs)) D := by
    rw [h.file]
    exact append_leave refsB mayB_refs _ (recB_ne _) D (by rw [h.bytes, ← h.size]; omega) h.room
  have hpl := pieces_leave refsB mayB_refs (recB (recOf cs)) D h.ok (by rw [h.bytes, ← h.size]; omega) h.room
  have hput : J.put D (recOf cs) = if (DM.pieces refsB (recB (recOf cs)) D).1 = 0 then (0, (DM.pieces refsB (recB (recOf cs)) D).2, J.add (recOf cs) (recB (recOf cs)).length) else ((DM.pieces refsB (recB (recOf cs)) D).1, (DM.pieces refsB (recB (recOf cs)) D).2, { J with cut := (DM.pieces refsB (recB (recOf cs)) D).1 == 6 }) := by unfold JM.put; rw [happ]
  rw [hput]
  clear hput happ
  obtain ⟨⟨er, D'⟩, hq⟩ : ∃ q, DM.pieces refsB (recB (recOf cs)) D = q := ⟨_, rfl⟩
  rw [hq] at hpl ⊢
  simp only at hpl ⊢
  obtain ⟨k1, k2, k3, k5, k4⟩ := hpl
  rcases k4 with ⟨rfl, k6⟩ | ⟨rfl, k6, q, k7, k8, k9⟩
  · rw [if_pos rfl, if_pos rfl]
    have hne : getA refsB D'.files ≠ none := fun e => by
      have h7 : D'.bytes refsB = [] := by unfold DM.bytes; rw [e]; rfl
      rw [h7] at k6
      exact recB_ne _ (List.append_eq_nil_iff.1 k6.symm).2
    refine ⟨k2, by simp only []; omega, .inl ⟨by rw [he], by rw [he, if_pos rfl, hcs], ?_, by simp only [JM.add]; omega, fun e => absurd (hcs ▸ e) h3⟩⟩
    refine h.added k1 hne k6 (by omega) (fun T hT => ?_) (hcs ▸ hsc.nodup) (fun c hc => ⟨hsc.may c (hcs ▸ hc), hids c hc⟩) (by omega)
    have hTn : NodupA T := h.nodup.perm hT.symm
    refine recR_of (fun c hc => ⟨hsc.may c (hcs ▸ hc), path_size (hsc.may c (hcs ▸ hc)), hids c hc, fun e => ?_⟩) (hcs ▸ hsc.nodup) h3 (by omega) ?_
    · rw [get_of_perm hTn hT]
      exact hsc.there c (hcs ▸ hc) e
    · rw [(layL_perm2 hTn (hcs ▸ hsc.nodup) hT).length_eq]; omega
  · rw [if_neg (show ¬ (6 : Int) = 0 by decide), if_neg (show ¬ (6 : Int) = 0 by decide)]
    refine ⟨k2, by simp only []; omega, .inr ⟨k6, rfl, he, rfl, k1, fun e => ?_, recOf cs, q, by omega, k7, k8, k9⟩⟩
    have h7 := k5 e
    simp only [h7] at e ⊢
    exact h.room e

/-- A file that leads back is opened. -/
theorem FileOk.opened {D : DM} {J : JM} {S : IdsL} (h : FileOk D J S) : ∃ T, openR D = (0, D, J, T) ∧ T.Perm S ∧ FileOk D J T := by
  obtain ⟨T, hT, hp⟩ := h.back
  have hj : openJ D refsB = (0, D, J) := by
    unfold openJ
    rw [h.bytes, jOpen_whole J.recs h.recs, ← h.size]
    unfold openOf
    simp only
    rw [if_neg (Nat.lt_irrefl _)]
    have := h.file
    have := h.cut
    cases J
    simp_all
  refine ⟨T, ?_, hp, ⟨h.ok, h.room, h.cut, h.file, h.recs, h.size, h.bytes, ⟨T, hT, List.Perm.refl _⟩, fun p hp2 => h.names p (hp.mem_iff.1 hp2), by rw [hp.length_eq]; exact h.most⟩⟩
  unfold openR
  rw [hj]
  simp only [if_true]
  rw [hT]
  rfl
/-- .. also where a record's beginning stands behind it. -/
theorem FileOk.mended {D D1 : DM} {J : JM} {S : IdsL} (h : FileOk D J S) (ho : D1.Ok) (hc : D1.cut = false) (hroom : getA refsB D1.files = none → D1.files.length < 256) {p q : List UInt8} (hp : p.length ≤ 262144) (hq : q <+: recB p) (hl : q.length < (recB p).length) (hb : D1.bytes refsB = D.bytes refsB ++ q) :
    ∃ D2 T, openR D1 = (0, D2, J, T) ∧ T.Perm S ∧ FileOk D2 J T ∧ D2.cut = false ∧ D2.writes ≤ D1.writes + 1 := by
  obtain ⟨T, hT, hpT⟩ := h.back
  have hJ : (⟨refsB, J.recs, J.size, false⟩ : JM) = J := by
    have := h.file
    have := h.cut
    cases J
    simp_all
  have hbl : (D1.bytes refsB).length = J.size + q.length := by rw [hb, h.bytes, List.length_append, h.size]
  have hj : openJ D1 refsB = openOf D1 refsB (J.size + q.length) (some (J.recs, J.size)) := by
    unfold openJ
    rw [hbl, hb, h.bytes, jOpen_part J.recs p q h.recs hp hq hl, ← h.size]
  have mk : ∀ D2 : DM, D2.Ok → (getA refsB D2.files = none → D2.files.length < 256) → D2.bytes refsB = D.bytes refsB → FileOk D2 J T := fun D2 h1 h2 h3 =>
    ⟨h1, h2, h.cut, h.file, h.recs, h.size, by rw [h3, h.bytes], ⟨T, hT, List.Perm.refl _⟩, fun p hp2 => h.names p (hpT.mem_iff.1 hp2), by rw [hpT.length_eq]; exact h.most⟩
  by_cases hq0 : q = []
  · subst hq0
    refine ⟨D1, T, ?_, hpT, mk D1 ho hroom (by simpa using hb), hc, by omega⟩
    unfold openR
    rw [hj]
    unfold openOf
    simp only [List.length_nil, Nat.add_zero, Nat.lt_irrefl, if_false, if_true]
    rw [hT, hJ]
    rfl
  · have hqp : 0 < q.length := List.length_pos_iff.2 hq0
    have hne : getA refsB D1.files ≠ none := fun e => by
      have h7 : D1.bytes refsB = [] := by unfold DM.bytes; rw [e]; rfl
      rw [h7] at hbl
      simp at hbl
      omega
    have hra := DM.raw_free hc
    have htr : D1.truncate refsB J.size = (0, DM.put { D1 with writes := D1.writes + 1 } refsB (D.bytes refsB)) := by
      unfold DM.truncate
      rw [if_neg hne, if_neg (by rw [hbl]; omega), if_neg (by rw [hbl]; omega), hra]
      simp only
      rw [hb, show ((J.size : Int)).toNat = J.size from by omega, h.size, ← h.bytes, List.take_left]
    have hor := (DM.raw_ok ho hra).1
    have hdb := DM.bytes_le h.ok refsB
    refine ⟨_, T, ?_, hpT, mk _ (DM.put_ok hor mayB_refs hdb (fun e => absurd e hne)) (fun e => by rw [DM.get_put] at e; cases e) (DM.bytes_put _ _ _), hc, Int.le_refl _⟩
    unfold openR
    rw [hj]
    unfold openOf
    simp only
    have hlt : J.size < J.size + q.length := by omega
    simp only [if_pos hlt, htr, if_true]
    rw [hT, hJ]
    rfl
theorem FileOk.fresh : FileOk ⟨[], 0, 0, false⟩ ⟨refsB, [], 0, false⟩ [] :=
  ⟨⟨by simp, by simp, by simp, by simp, by simp, by simp [NodupA]⟩, fun _ => by simp, rfl, rfl, by simp, rfl, rfl, ⟨[], rfl, List.Perm.refl _⟩, by simp, by simp⟩
end Go.Proofs.YtjnhkepgoghogaaGreatDoor

/- espalierlaw08.wakes; Open and Set where the file leads back. -/
namespace Go.Proofs.YtjnhkepgoghogaaGreatDoor
open Go.RowKit Go.ChangeMaps Go.MapKept
set_option linter.unusedSimpArgs false

/-- Refs whose blocks are at or beyond n0. -/
structure NewRefs (n0 r im j b m : Nat) (es : Array MapEntry) (av pv : Value) : Prop where
  r : n0 ≤ r
  im : n0 ≤ im
  jour : ∀ k, jourF j b m es av pv k → n0 ≤ k

/-- Open, where the file leads back. -/
theorem open_ok {w : World} {b m : Nat} {es : Array MapEntry} {clock : Nat} {D : DM} {J : JM} {S : IdsL} (hd : DiskAt w b m es clock D) (hF : FileOk D J S) (hw : D.writes < 2305843009213693952) :
    Calls Tryz.prog 7 #[.pointer (some ⟨b, 0, none⟩)] w fun e w' => ∃ es' clock' r im ies iclk j av pv l T, e = .returned (.tuple #[.pointer (some ⟨r, 0, none⟩), .int .i64 0]) ∧
      RefsAt w' r im ies iclk j b m es' clock' av pv l D J T ∧ T.Perm S ∧ FileOk D J T ∧ DiskAfter w b m es D w' es' clock' ∧ w.heap.size ≤ r ∧ w.heap.size ≤ im ∧ (∀ k, jourF j b m es' av pv k → diskF b m es k ∨ w.heap.size ≤ k) := by
  obtain ⟨T, hO, hp, hT⟩ := hF.opened
  have h := open_any hd hw
  rw [hO] at h
  refine h.mono ?_
  rintro e w' ⟨es', clk', hA, -, h0⟩
  obtain ⟨r, im, ies, iclk, j, av, pv, l, rfl, hR, h1, h2, h3, h4, h5⟩ := h0 rfl
  refine ⟨es', clk', r, im, ies, iclk, j, av, pv, l, T, rfl, hR, hp, hT, hA, h1, h2, ?_⟩
  rintro k (rfl | e | e | e)
  · exact .inr h3
  · exact .inr (h4 k e)
  · exact .inr (h5 k e)
  · exact hA.foot k e
/-- Set, where the file leads back. -/
theorem set_ok {w : World} {r im : Nat} {ies : Array MapEntry} {iclk j b m : Nat} {es : Array MapEntry} {clock : Nat} {av pv : Value} {S0 S : IdsL} {D : DM} {J : JM} (h : RefsAt w r im ies iclk j b m es clock av pv S0 D J S) (hF : FileOk D J S) (la : Option Addr) (lc n : Nat) (l : IdsL) (hl : IsR w (.slice la n lc) l)
    (hn : l.length ≤ 1000) (hid : ∀ p ∈ l, p.2 < 18446744073709551616) (hz : J.size + 250000 ≤ 4194304) (hw : D.writes < 2305843009213693952) :
    Calls Tryz.prog 9 #[.pointer (some ⟨r, 0, none⟩), .slice la n lc] w fun e w' => e = .returned (.int .i64 (setR D J S l).1) ∧ SetOk D J S l (setR D J S l) ∧ SetEnd w r im j b m es av pv (setR D J S l) w' := by
  obtain rfl : n = l.length := by obtain ⟨_, _, e, -⟩ := hl; cases e; rfl
  have hs := hF.small
  refine (set_any h la lc l hl hn hid hF.most hF.cut (by omega) (by omega) (by omega) hw).mono ?_
  rintro e w' ⟨h1, h2⟩
  exact ⟨h1, set_plain hF hn hid hz, h2⟩

theorem scan_ab : (scanOf [] [(⟨#[97, 47, 98]⟩, 7)]).1 = 0 ∧ (scanOf [] [(⟨#[97, 47, 98]⟩, 7)]).2.cs = [(⟨#[97, 47, 98]⟩, 7)] := by
  unfold scanOf
  rw [scanGo_step, if_neg (by rw [may_ab]; decide)]
  simp [scanGo, getA]
theorem setErr_ab : setErr [] [(⟨#[97, 47, 98]⟩, 7)] = 0 := by
  unfold setErr
  rw [if_neg (by rw [scan_ab.1]; decide), scan_ab.2]
  rfl

set_option maxRecDepth 100000 in
set_option maxHeartbeats 1000000 in
theorem wakes08_any (w : World) : Calls Tryz.prog 5 #[] w fun e w' => e = .returned (.bool true) ∧ Kept (fun _ => False) w w' := by
  go_enter Tryz.func5, Tryz.ntmps5
  go_wp2_with fail
  refine (new_any w).mono ?_
  rintro e w1 ⟨b, m, rfl, hb, hm, hd, hk1⟩
  have HOP := Lib.hid (open_ok hd FileOk.fresh (by simp))
  have HK1 := Lib.hid hk1
  have HBM := Lib.hid (And.intro hb hm)
  clear hd hk1 hb hm
  go_wp2_with fail
  refine HOP.out.mono ?_
  rintro e w2 ⟨es2, clk2, r, im, ies, iclk, j, av, pv, l, T, rfl, hR, hp, hF, hA, hr, him, hjf⟩
  obtain rfl := hp.eq_nil
  have hdf : ∀ k, diskF b m #[] k → w.heap.size ≤ k := fun k hk => by
    rcases hk with rfl | rfl | ⟨e, he, -⟩
    · exact HBM.out.1
    · exact HBM.out.2
    · simp at he
  have HK2 : Hid (Kept (fun _ => False) w w2) := Lib.hid (HK1.out.more hA.kept hdf)
  have hs1 := HK1.out.size
  have HNF : Hid (w.heap.size ≤ im ∧ ∀ k, jourF j b m es2 av pv k → w.heap.size ≤ k) := Lib.hid ⟨by omega, fun k hk => (hjf k hk).elim (hdf k) (fun h => Nat.le_trans hs1 h)⟩
  obtain ⟨w3, hw3, hk3, hs3, hb3⟩ := ref_new w2 ⟨#[97, 47, 98]⟩ 7
  have hw3' : w2.alloc (.cells #[.string { data := #[97, 47, 98] }, .int .u64 7] 38) = w3 := hw3
  clear hw3
  have hIS : IsR w3 (.slice (some ⟨w2.heap.size, 0, none⟩) 1 1) [(⟨#[97, 47, 98]⟩, 7)] := ⟨_, _, rfl, by simp, by simp [maxLen], .inr ⟨w2.heap.size, 0, rfl, by omega, fun i x hx => by
    match i, hx with
    | 0, hx => cases hx; simp [World.cell?, hb3]
    | 1, hx => cases hx; simp [World.cell?, hb3]
    | i + 2, hx => simp [flatR, encR] at hx⟩⟩
  have HST := Lib.hid (set_ok (hR.keptN hk3) hF (some ⟨w2.heap.size, 0, none⟩) 1 1 _ hIS (by simp) (by simp) (by simp) (by simp))
  have HK3 : Hid (Kept (fun _ => False) w w3) := Lib.hid (HK2.out.more hk3 (fun _ f => f.elim))
  clear hR hp hF hA hr him hjf hdf hs1 hk3 hs3 hb3 hIS
  go_wp2_with fail
  refine HST.out.mono ?_
  rintro e w4 ⟨rfl, hSO, ies4, iclk4, es4, clk4, av4, pv4, l4, hR4, hj4, hk4⟩
  have hlv := hSO.leave.resolve_right (fun h => by cases h.1)
  rw [setErr_ab, if_pos rfl, scan_ab.2] at hlv
  obtain ⟨h1, h2, -⟩ := hlv
  obtain ⟨⟨er, D4, J4, S4⟩, hO⟩ : ∃ o, setR ⟨[], 0, 0, false⟩ ⟨refsB, [], 0, false⟩ [] [(⟨#[97, 47, 98]⟩, 7)] = o := ⟨_, rfl⟩
  rw [hO] at h1 h2 hR4 ⊢
  simp only at h1 h2 hR4 ⊢
  subst h1
  subst h2
  have hI4 := hR4.refs
  have hg := get_any hI4 ⟨#[97, 47, 98]⟩
  have hgv : getA (⟨#[97, 47, 98]⟩ : ByteArray) (layL [] [(⟨#[97, 47, 98]⟩, 7)]) = some 7 := by simp [layL, layOne, putA, getA]
  rw [hgv] at hg
  have HG := Lib.hid hg
  have HL := Lib.hid (len_any hI4)
  have HK4 : Hid (Kept (fun _ => False) w w4) := Lib.hid (HK3.out.more hk4 (fun i e => e.elim (fun h => by have := HNF.out.1; omega) (HNF.out.2 i)))
  clear hSO hR4 hj4 hk4 hI4 hg hgv hO
  go_wp2_with (first | (go_at_call 18; refine HG.out.mono ?_; rintro e w5 ⟨rfl, rfl⟩) | (go_at_call 19; refine HL.out.mono ?_; rintro e w6 ⟨rfl, rfl⟩))
  go_ret
  exact ⟨rfl, HK4.out⟩
end Go.Proofs.YtjnhkepgoghogaaGreatDoor
