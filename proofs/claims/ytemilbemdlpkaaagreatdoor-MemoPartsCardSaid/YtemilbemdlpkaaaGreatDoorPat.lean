/- journal.Open, whatever lies in the file. -/
import Derived.Lib.ConvBytes
import Derived.RangeFuncBound
import Derived.RangeFuncCalls
import Derived.RangeFuncLeaves
import Derived.RangeFuncBox
import Derived.Shelf.Abstract
import Derived.OwnWalkIn
import Derived.LoopNIn
import Derived.LoopIn
import Derived.Maps.OwnIn
import Derived.RangeFuncWrites
import Derived.TacticsInMore
import Derived.Test.YtemilbemdlpkaaaGreatDoorPap
import Derived.Test.YtemilbemdlpkaaaGreatDoorPar
import Derived.Test.YtemilbemdlpkaaaGreatDoorPaq
import Derived.Test.YtemilbemdlpkaaaGreatDoorPas
namespace Go.Proofs.YtemilbemdlpkaaaGreatDoor
open Go.RowKit Go.ChangeMaps Go.MapKept
set_option linter.unusedSimpArgs false

theorem conv_back (s : ByteArray) (hs : s.size ≤ maxLen) (w : World) : ∃ c W, (convert 9 25 (.string s)).run Tryz.prog w = .ok (.slice (some ⟨w.heap.size, 0, none⟩) s.size c) W ∧ IsB W (.slice (some ⟨w.heap.size, 0, none⟩) s.size c) (txB s) ∧ Kept (fun _ => False) w W ∧ W.heap.size = w.heap.size + 1 := by
  refine ⟨_, _, Lib.run_convert_string_bytes (P := Tryz.prog) w 9 25 5 s Tryz.underlying9 Tryz.underlying25 Tryz.underlying5, ?_, ?_, Lib.bytesWorld_size _ _ _⟩
  · have hl := txB_length s
    refine ⟨_, _, by rw [hl], by rw [hl]; exact grownCap_ge _ _ _ _, grownCap_le_maxLen _ _ _ _ hs, .inr ⟨_, 0, rfl, by rw [Lib.bytesWorld_size]; omega, fun i x hx => ?_⟩⟩
    have hi : i < s.size := by
      have := (List.getElem?_eq_some_iff.1 hx).1
      rw [bytesV_length, hl] at this
      exact this
    rw [Nat.zero_add, Lib.bytesWorld_cell w 5 s i hi]
    rw [← hx]
    have hi2 : i < s.data.toList.length := by simpa using hi
    have hi3 : i < s.data.size := by simpa using hi2
    have e := Array.getElem?_eq_getElem hi3
    simp [bytesV, txB, List.getD, e]
  · exact ⟨rfl, rfl, rfl, by rw [Lib.bytesWorld_size]; omega, fun k hk _ => Lib.bytesWorld_at_old w _ s k hk⟩

/-- What journal.Open makes of what is parsed. -/
def openOf (D : DM) (s : ByteArray) (n : Nat) : Option (List (List UInt8) × Nat) → Int × DM × JM
  | none => (8, D, ⟨s, [], 0, false⟩)
  | some (recs, sz) => if sz < n then ((D.truncate s sz).1, (D.truncate s sz).2, ⟨s, recs, sz, false⟩) else (0, D, ⟨s, recs, sz, false⟩)
/-- What journal.Open makes of a disk's file: an error's number, the disk, the journal. -/
def openJ (D : DM) (s : ByteArray) : Int × DM × JM := openOf D s (D.bytes s).length (jOpen (D.bytes s))
theorem jGo_step {f : Nat} {bs : List UInt8} {t : ByteArray} {q1 q2 : RM} {x : Nat} {recs : List (List UInt8)} {sz : Nat} (hne : bs ≠ []) (h1 : (RM.mk bs 0).text 262144 = (t, q1)) (h2 : q1.word = (x, q2)) :
    jGo (f + 1) bs recs sz = if q2.err = 110 then some (recs, sz) else if q2.err ≠ 0 ∨ x ≠ hashB (txB t) then none else jGo f q2.bs (recs ++ [txB t]) (sz + (bs.length - q2.bs.length)) := by
  rw [jGo, if_neg hne, h1]
  simp only
  rw [h2]
theorem RM.word_len0 (r : RM) (h : r.word.2.err = 0) (h0 : r.err = 0) : r.word.2.bs.length + 8 ≤ r.bs.length := by
  unfold RM.word at h ⊢
  rw [if_pos h0] at h ⊢
  by_cases h8 : r.bs.length < 8
  · rw [if_pos h8] at h; cases h
  · rw [if_neg h8]; simp only [List.length_drop]; omega
theorem text_word_len {bs : List UInt8} {t : ByteArray} {q1 q2 : RM} {x : Nat} (h1 : (RM.mk bs 0).text 262144 = (t, q1)) (h2 : q1.word = (x, q2)) : t.size ≤ bs.length ∧ q2.bs.length ≤ bs.length ∧ (q2.err = 0 → q2.bs.length + t.size < bs.length ∧ t.size ≤ 262144) := by
  have h3 := RM.text_len (RM.mk bs 0) 262144
  have h4 := RM.word_len q1
  rw [h1] at h3
  rw [h2] at h4
  simp only at h3 h4
  refine ⟨by omega, by omega, fun he => ?_⟩
  have hq : q1.err = 0 := by
    by_cases hz : q1.err = 0
    · exact hz
    · rw [RM.word_err q1 hz] at h2
      cases h2
      exact he
  have h5 := RM.text_len (RM.mk bs 0) 262144
  rw [h1] at h5
  have h6 := h5.2 hq
  simp only at h6 h5
  have h7 := RM.word_len0 q1 (by rw [h2]; exact he) hq
  rw [h2] at h7
  simp only at h7
  exact ⟨by omega, h6.2.2⟩

/-- A journal lies apart from a reader made behind it. -/
theorem RdrAt.beside {w w' : World} {B N j b m : Nat} {q : RM} {es : Array MapEntry} {clock : Nat} {av pv : Value} {D : DM} {J : JM} (h : RdrAt w B N q) (hj : JAt w j b m es clock av pv D J) (hB : j < B) (ha : ∀ g, av.ownBlock = some g → N ≤ g) (hp : ∀ g, pv.ownBlock = some g → N ≤ g)
    (hk : Kept (fun k => k = j ∨ av.ownBlock = some k ∨ pv.ownBlock = some k) w w') : RdrAt w' B N q := by
  obtain ⟨a, c, hc, hb, hN, hn⟩ := h.at_
  obtain ⟨aa, ac, hav, -, -⟩ := hj.all.form
  obtain ⟨pa, pc, hpv⟩ : ∃ pa pc, pv = .slice pa J.recs.length pc := by
    rcases hj.parts.2 with ⟨h1, h0⟩ | ⟨g, cap, cur, h1, -⟩
    · exact ⟨none, 0, by rw [h1, h0]⟩
    · exact ⟨_, _, h1⟩
  refine ⟨a, c, (hk.block B (Array.getElem?_eq_some_iff.1 hc).1 ?_).trans hc, hb.keptS hk (fun hne g hg e => ?_), hN, hn⟩
  · rintro (e | e | e)
    · omega
    · have := ha _ e; omega
    · have := hp _ e; omega
  · rcases e with e | e | e
    · obtain ⟨a', c', hv, -, -, h3⟩ := hb
      cases hv
      rcases h3 with h3 | ⟨g', o, rfl, -, hcell⟩
      · exact hne h3
      · cases hg
        obtain ⟨x, l, hx⟩ := List.exists_cons_of_ne_nil hne
        have h5 := hcell 0 (.int .u8 (x.toNat : Int)) (by rw [hx]; rfl)
        have e2 : g' = j := e
        rw [e2] at h5
        have hcj := hj.cell
        simp only [World.cell?, hcj] at h5
        match o, h5 with
        | 0, h5 => simp at h5
        | 1, h5 => simp at h5
        | 2, h5 => simp at h5; rw [hav] at h5; cases h5
        | 3, h5 => simp at h5; rw [hpv] at h5; cases h5
        | 4, h5 => simp at h5
        | 5, h5 => simp at h5
        | o + 6, h5 => simp at h5
    · have := ha _ e; have := (hn hne g hg).2; omega
    · have := hp _ e; have := (hn hne g hg).2; omega

theorem DiskAfter.none {w w' : World} {b m : Nat} {es : Array MapEntry} {clock : Nat} {D : DM} (h : DiskAt w b m es clock D) (hk : Kept (fun _ => False) w w') : DiskAfter w b m es D w' es clock :=
  ⟨h.kept hk (fun _ _ hf => hf), fun _ hk => .inl hk, hk.mono fun _ _ hf => hf.elim⟩
set_option maxRecDepth 100000 in
set_option maxHeartbeats 1000000 in
theorem jopen_any {w : World} {b m : Nat} {es : Array MapEntry} {clock : Nat} {D : DM} (hd : DiskAt w b m es clock D) (s : ByteArray) (hs : s.size ≤ 32) (hw : D.writes < 2305843009213693952) :
    Calls Tryz.prog 41 #[.pointer (some ⟨b, 0, none⟩), .string s] w fun e w' => ∃ es' clock', DiskAfter w b m es (openJ D s).2.1 w' es' clock' ∧ ((openJ D s).1 ≠ 0 → e = .returned (.tuple #[.pointer none, .int .i64 (openJ D s).1])) ∧
      ((openJ D s).1 = 0 → ∃ j av pv, e = .returned (.tuple #[.pointer (some ⟨j, 0, none⟩), .int .i64 0]) ∧ w.heap.size ≤ j ∧ (∀ g, av.ownBlock = some g → w.heap.size ≤ g) ∧ (∀ g, pv.ownBlock = some g → w.heap.size ≤ g) ∧ JAt w' j b m es' clock' av pv (openJ D s).2.1 (openJ D s).2.2) := by
  have hR := read_any hd s
  unfold ReadEnd at hR
  have HR := Lib.hid hR
  have HD := Lib.hid hd
  have HLE := Lib.hid (DM.bytes_le hd.ok s)
  obtain ⟨bs, hbs⟩ : ∃ bs, D.bytes s = bs := ⟨_, rfl⟩
  have HO : Hid (openJ D s = openOf D s bs.length (jOpen bs)) := Lib.hid (by unfold openJ; rw [hbs])
  have HTR := Lib.hid (fun (W : World) (hk : Kept (fun _ => False) w W) (n : Nat) => truncate_any (hd.kept hk (fun _ _ f => f)) s n hw)
  rw [hbs] at HR HLE
  generalize openJ D s = O at HO ⊢
  obtain ⟨ev, hev⟩ : ∃ ev : Int, (if (getA s D.files).isSome then (0 : Int) else 4) = ev := ⟨_, rfl⟩
  rw [hev] at HR
  have hev2 : ev = 0 ∨ ev = 4 := by rw [← hev]; split <;> simp
  unfold jOpen at HO
  clear hR hd hbs hev
  go_enter Tryz.func41, Tryz.ntmps41
  go_wp2_with fail
  go_step3
  go_wp2_with fail
  refine HR.out.mono ?_
  rintro e w1 ⟨v1, rfl, hf1, -⟩
  obtain ⟨ba, bc, rfl, -, -⟩ := hf1.own.form
  obtain ⟨w2, hw2⟩ : ∃ w2, w1.alloc (.cells #[.pointer (some ⟨b, 0, none⟩), .string s, .slice none 0 0, .slice none 0 0, .int .i64 0, .bool false] 153) = w2 := ⟨_, rfl⟩
  have hk2 : Kept (fun _ => False) w1 w2 := by rw [← hw2]; exact (Kept.refl _ _).alloc _
  have hc2 : w2.heap[w1.heap.size]? = some (.cells #[.pointer (some ⟨b, 0, none⟩), .string s, .slice none 0 0, .slice none 0 0, .int .i64 0, .bool false] 153 (0, 0)) := by rw [← hw2]; exact heap_alloc_new _ _
  have hRD := Lib.hid (reader_any w2 _ bs (hf1.own.isB.keptF hk2 (fun _ _ f => f)) (by have := HLE.out; omega))
  have hS2 : w1.heap.size < w2.heap.size := by rw [← hw2]; simp
  have HK2 : Hid (Kept (fun _ => False) w w2) := Lib.hid (hf1.kept.more hk2 (fun _ f => f.elim))
  have HS1 : Hid (w.heap.size ≤ w1.heap.size) := Lib.hid hf1.kept.size
  have HC2 := Lib.hid hc2
  have HS2 := Lib.hid hS2
  clear hf1 hk2 hc2 hS2 HR
  rcases hev2 with rfl | rfl
  · go_wp2_with fail
    refine hRD.out.mono ?_
    rintro e w3 ⟨B, rfl, hB, hRA, hk3⟩
    have HK3 : Hid (Kept (fun _ => False) w w3) := Lib.hid (HK2.out.more hk3 (fun _ f => f.elim))
    have HA0 := Lib.hid hRA
    have HJ0 : Hid (JAt w3 w1.heap.size b m es clock (.slice none 0 0) (.slice none 0 0) D ⟨s, [], 0, false⟩) := Lib.hid ⟨HD.out.kept HK3.out (fun _ _ f => f), (hk3.block _ HS2.out (fun f => f)).trans HC2.out, World.ownsRow_nil _ _ _ _, World.ownsRow_nil _ _ _ _, (fun g e => by cases e), by simp [JM.all], by simp, by simp, hs⟩
    have HB : Hid (w1.heap.size < B ∧ w.heap.size ≤ w3.heap.size ∧ B < w3.heap.size) := Lib.hid ⟨Nat.lt_of_lt_of_le HS2.out hB, HK3.out.size, by obtain ⟨a, c, -, -, h, -⟩ := hRA.at_; exact h⟩
    obtain ⟨nb, hnb⟩ : ∃ n, bs.length = n := ⟨_, rfl⟩
    have HNB := Lib.hid hnb
    obtain ⟨N, hN⟩ : ∃ n, w3.heap.size = n := ⟨_, rfl⟩
    rw [hN] at HA0 HB
    have HN3 : Hid (N ≤ w3.heap.size) := Lib.hid (by omega)
    obtain ⟨J0, hJ0⟩ : ∃ n, w1.heap.size = n := ⟨_, rfl⟩
    rw [hJ0] at HJ0 HB HS1
    rw [hnb] at HO HLE ⊢
    rw [hJ0]
    clear hB hRA hk3 hRD hnb hN hJ0 HC2 HS2 HK2
    go_wp2_with fail
    go_step3
    go_wp2_with fail
    go_loopg [] nb (fun g wr => ∃ q recs sz av pv, q.length ≤ g ∧ Hid (O = openOf D s nb (jGo g q recs sz)) ∧ Hid (RdrAt wr B N ⟨q, 0⟩) ∧ Hid (JAt wr J0 b m es clock av pv D ⟨s, recs, sz, false⟩) ∧ Hid ((∀ k, av.ownBlock = some k → N ≤ k) ∧ (∀ k, pv.ownBlock = some k → N ≤ k)) ∧ Hid (sz + q.length = nb ∧ recs.flatten.length ≤ sz ∧ recs.length ≤ sz) ∧ Hid (Kept (fun _ => False) w wr) ∧ Hid (N ≤ wr.heap.size))
    case atStart => exact ⟨bs, [], 0, .slice none 0 0, .slice none 0 0, by rw [HNB.out]; exact Nat.le_refl _, HO, HA0, HJ0, Lib.hid ⟨(fun k (e : none = some k) => nomatch e), (fun k (e : none = some k) => nomatch e)⟩, Lib.hid ⟨by rw [Nat.zero_add]; exact HNB.out, by simp, by simp⟩, HK3, HN3⟩
    case round =>
      obtain ⟨q, recs, sz, av, pv, hqg, HG, HA, HJ, HV, HZ, HK, HNW⟩ := hrel
      clear HA0 HJ0 HK3 HO
      have HL := Lib.hid (left_any HA.out)
      by_cases hq0 : q = []
      · have hl0 : q.length = 0 := by rw [hq0]; rfl
        have HG2 : Hid (O = openOf D s nb (some (recs, sz))) := Lib.hid (by rw [HG.out, hq0, jGo_nil])
        simp only [hl0] at HL
        clear hqg
        have HNEW : (∀ k, av.ownBlock = some k → w.heap.size ≤ k) ∧ (∀ k, pv.ownBlock = some k → w.heap.size ≤ k) := ⟨fun k e => Nat.le_trans HB.out.2.1 (HV.out.1 k e), fun k e => Nat.le_trans HB.out.2.1 (HV.out.2 k e)⟩
        clear hl0 hq0
        obtain ⟨-, -, -, -, hd4, -, hfzj⟩ := HJ.out.c
        simp only at hd4
        by_cases hlt : sz < nb
        · have hltb : (sz : Int) < (nb : Int) := by omega
          have HT := Lib.hid (HTR.out wr HK.out sz)
          have HO3 : Hid (O = ((D.truncate s sz).1, (D.truncate s sz).2, ⟨s, recs, sz, false⟩)) := Lib.hid (by rw [HG2.out]; unfold openOf; simp only; rw [if_pos hlt])
          obtain ⟨⟨er, D'⟩, hq⟩ : ∃ q, D.truncate s sz = q := ⟨_, rfl⟩
          rw [hq] at HT HO3
          simp only at HT HO3
          clear hq hlt hfzj
          by_cases he0 : er = 0
          · have he0b : (er != 0) = false := by simp [he0]
            have HE0 := Lib.hid he0
            clear he0
            go_wp2_with (first | (go_at_call 83; refine HL.out.mono ?_; rintro e w4 ⟨rfl, rfl⟩) | (go_at_call 88; refine HT.out.mono ?_; rintro e w8 ⟨rfl, es8, clk8, hA8⟩))
            (try rw [Exit.noGoto_ret])
            go_ret2
            have hda : DiskAfter w b m es D' w8 es8 clk8 := DiskAfter.of_kept HK.out hA8
            rw [HO3.out]
            exact ⟨es8, clk8, hda, fun h => absurd HE0.out h, fun _ => ⟨_, _, _, rfl, HS1.out, HNEW.1, HNEW.2, HJ.out.over hA8.disk hA8.foot hA8.kept⟩⟩
          · have he0b : (er != 0) = true := by simp [he0]
            have HE0 := Lib.hid he0
            clear he0
            go_wp2_with (first | (go_at_call 83; refine HL.out.mono ?_; rintro e w4 ⟨rfl, rfl⟩) | (go_at_call 88; refine HT.out.mono ?_; rintro e w8 ⟨rfl, es8, clk8, hA8⟩))
            (try rw [Exit.noGoto_ret])
            go_ret2
            have hda : DiskAfter w b m es D' w8 es8 clk8 := DiskAfter.of_kept HK.out hA8
            rw [HO3.out]
            exact ⟨es8, clk8, hda, fun _ => rfl, fun h => absurd h HE0.out⟩
        · have hltb : ¬ (sz : Int) < (nb : Int) := by omega
          have HO3 : Hid (O = (0, D, ⟨s, recs, sz, false⟩)) := Lib.hid (by rw [HG2.out]; unfold openOf; simp only; rw [if_neg hlt])
          clear hlt hfzj
          go_wp2_with (go_at_call 83; refine HL.out.mono ?_; rintro e w4 ⟨rfl, rfl⟩)
          (try rw [Exit.noGoto_ret])
          go_ret2
          rw [HO3.out]
          exact ⟨es, clock, DiskAfter.none HD.out HK.out, fun h => absurd rfl h, fun _ => ⟨_, _, _, rfl, HS1.out, HNEW.1, HNEW.2, HJ.out⟩⟩
      · have hlpos : 0 < q.length := List.length_pos_iff.2 hq0
        obtain ⟨g, rfl⟩ : ∃ g, gk = g + 1 := ⟨gk - 1, by omega⟩
        have HT := Lib.hid (textOf_any HA.out 262144 (by omega))
        obtain ⟨⟨x, q1⟩, ht⟩ : ∃ t, (RM.mk q 0).text 262144 = t := ⟨_, rfl⟩
        rw [ht] at HT
        obtain ⟨⟨sum, q2⟩, hx⟩ : ∃ t, q1.word = t := ⟨_, rfl⟩
        rw [jGo_step hq0 ht hx] at HG
        have hlen := text_word_len ht hx
        clear ht hq0
        simp only at HT
        obtain ⟨ql, hql⟩ : ∃ n, q.length = n := ⟨_, rfl⟩
        rw [hql] at HL HG HZ hlen hqg hlpos
        have hlp : decide ((0 : Int) < (ql : Int)) = true := by simp; omega
        clear hql
        go_wp2_with (go_at_call 83; refine HL.out.mono ?_; rintro e w4 ⟨rfl, rfl⟩)
        refine HT.out.mono ?_
        rintro e w4 ⟨rfl, hA4, hk4⟩
        obtain ⟨cc, w5, hcv, hp5, hk5, hs5⟩ := conv_back x (by have := HZ.out; have := HLE.out; unfold maxLen; omega) w4
        have HW := Lib.hid (word_any (hA4.kept hk5 (fun _ f => f.elim)))
        rw [hx] at HW
        simp only at HW
        go_wp2_with fail
        refine HW.out.mono ?_
        rintro e w6 ⟨rfl, hA6, hk6⟩
        have hkr5 : Kept (· = B) wr w5 := hk4.trans hk5 (fun _ _ f => f.elim)
        have hkr6 : Kept (· = B) wr w6 := hkr5.trans hk6 (fun _ _ e => e)
        have HK6 : Hid (Kept (fun _ => False) w w6) := Lib.hid (HK.out.more hkr6 (fun i (e : i = B) => by have := HB.out; have := HS1.out; omega))
        have HBJ : Hid (¬ jourF J0 b m es av pv B) := Lib.hid (by
          rintro (e | e | e | e)
          · have := HB.out; omega
          · have := HV.out.1 _ e; have := HB.out; omega
          · have := HV.out.2 _ e; have := HB.out; omega
          · have := HD.out.lt _ e; have := HB.out; have := HS1.out; omega)
        have HJ6 := Lib.hid (HJ.out.kept hkr6 (fun k hk e => HBJ.out (e ▸ hk)))
        have hp6 : IsB w6 (.slice (some ⟨w4.heap.size, 0, none⟩) x.size cc) (txB x) := hp5.keptF hk6 (fun g e e2 => by
          cases e
          have h1 := hk4.size
          have h2 := HB.out
          have h3 := HNW.out
          simp only at e2
          omega)
        have HNW6 : Hid (N ≤ w6.heap.size) := Lib.hid (Nat.le_trans HNW.out hkr6.size)
        have HE6 := Lib.hid (errOf_any hA6)
        have HP6 := Lib.hid hp6
        have HA6 := Lib.hid hA6
        clear hkr5 hkr6 hA6 hk6 hp6 hA4 hk4 hp5 hk5 HW HT
        by_cases h1 : q2.err = 110
        · have h1b : (q2.err == 110) = true := by simp [h1]
          have HG2 : Hid (O = openOf D s nb (some (recs, sz))) := Lib.hid (by rw [HG.out, if_pos h1])
          clear h1
          have HNEW : (∀ k, av.ownBlock = some k → w.heap.size ≤ k) ∧ (∀ k, pv.ownBlock = some k → w.heap.size ≤ k) := ⟨fun k e => Nat.le_trans HB.out.2.1 (HV.out.1 k e), fun k e => Nat.le_trans HB.out.2.1 (HV.out.2 k e)⟩
          obtain ⟨-, -, -, -, hd4, -, hfzj⟩ := HJ6.out.c
          simp only at hd4
          by_cases hlt : sz < nb
          · have hltb : (sz : Int) < (nb : Int) := by omega
            have HT := Lib.hid (HTR.out w6 HK6.out sz)
            have HO3 : Hid (O = ((D.truncate s sz).1, (D.truncate s sz).2, ⟨s, recs, sz, false⟩)) := Lib.hid (by rw [HG2.out]; unfold openOf; simp only; rw [if_pos hlt])
            obtain ⟨⟨er, D'⟩, hq⟩ : ∃ q, D.truncate s sz = q := ⟨_, rfl⟩
            rw [hq] at HT HO3
            simp only at HT HO3
            clear hq hlt hfzj
            by_cases he0 : er = 0
            · have he0b : (er != 0) = false := by simp [he0]
              have HE0 := Lib.hid he0
              clear he0
              go_wp2_with (first | (go_at_call 86; refine HE6.out.mono ?_; rintro e w7 ⟨rfl, rfl⟩) | (go_at_call 88; refine HT.out.mono ?_; rintro e w8 ⟨rfl, es8, clk8, hA8⟩))
              (try rw [Exit.noGoto_ret])
              go_ret2
              have hda : DiskAfter w b m es D' w8 es8 clk8 := DiskAfter.of_kept HK6.out hA8
              rw [HO3.out]
              exact ⟨es8, clk8, hda, fun h => absurd HE0.out h, fun _ => ⟨_, _, _, rfl, HS1.out, HNEW.1, HNEW.2, HJ6.out.over hA8.disk hA8.foot hA8.kept⟩⟩
            · have he0b : (er != 0) = true := by simp [he0]
              have HE0 := Lib.hid he0
              clear he0
              go_wp2_with (first | (go_at_call 86; refine HE6.out.mono ?_; rintro e w7 ⟨rfl, rfl⟩) | (go_at_call 88; refine HT.out.mono ?_; rintro e w8 ⟨rfl, es8, clk8, hA8⟩))
              (try rw [Exit.noGoto_ret])
              go_ret2
              have hda : DiskAfter w b m es D' w8 es8 clk8 := DiskAfter.of_kept HK6.out hA8
              rw [HO3.out]
              exact ⟨es8, clk8, hda, fun _ => rfl, fun h => absurd h HE0.out⟩
          · have hltb : ¬ (sz : Int) < (nb : Int) := by omega
            have HO3 : Hid (O = (0, D, ⟨s, recs, sz, false⟩)) := Lib.hid (by rw [HG2.out]; unfold openOf; simp only; rw [if_neg hlt])
            clear hlt hfzj
            go_wp2_with (go_at_call 86; refine HE6.out.mono ?_; rintro e w7 ⟨rfl, rfl⟩)
            (try rw [Exit.noGoto_ret])
            go_ret2
            rw [HO3.out]
            exact ⟨es, clock, DiskAfter.none HD.out HK6.out, fun h => absurd rfl h, fun _ => ⟨_, _, _, rfl, HS1.out, HNEW.1, HNEW.2, HJ6.out⟩⟩
        · have h1b : (q2.err == 110) = false := by simp [h1]
          by_cases h2 : q2.err = 0
          · have h2b : (q2.err != 0) = false := by simp [h2]
            have HH6 := Lib.hid (hash_any w6 (some ⟨w4.heap.size, 0, none⟩) cc (txB x) (by rw [txB_length]; exact HP6.out))
            rw [txB_length] at HH6
            by_cases h3 : sum = hashB (txB x)
            · have h3b : ((sum : Int) != ((hashB (txB x) : Nat) : Int)) = false := by simp [h3]
              obtain ⟨q2b, rfl⟩ : ∃ z, q2 = ⟨z, 0⟩ := ⟨q2.bs, by cases q2; simp only at h2; rw [h2]⟩
              obtain ⟨hlen1, hlen2, hlen3⟩ := hlen
              have hlen3 := hlen3 rfl
              have HL6 := Lib.hid (left_any HA6.out)
              simp only at HL6 HG hlen1 hlen2 hlen3
              obtain ⟨q2l, hq2l⟩ : ∃ z, q2b.length = z := ⟨_, rfl⟩
              rw [hq2l] at HL6 HG hlen2 hlen3
              obtain ⟨n, hn⟩ : ∃ n, ql - q2l = n := ⟨_, rfl⟩
              rw [hn] at HG
              have hxl := txB_length x
              have hADD := Lib.hid (add_sharp HJ6.out (some ⟨w4.heap.size, 0, none⟩) cc (txB x) (by rw [hxl]; exact HP6.out) n (by have := HZ.out; have := HLE.out; show (List.flatten recs).length + _ ≤ _; omega) (by have := HZ.out; have := HLE.out; show sz + _ ≤ _; omega) (by have := HZ.out; have := HLE.out; show recs.length + 1 ≤ _; omega))
              rw [hxl] at hADD
              have hsub : (ql : Int) - (q2l : Int) = (n : Int) := by omega
              have hnM : n ≤ 4194304 := by have := HZ.out; have := HLE.out; omega
              have HGN : Hid (O = openOf D s nb (jGo g q2b (recs ++ [txB x]) (sz + n))) := Lib.hid (by rw [HG.out, if_neg (by simp), if_neg (by simp [h3])])
              have HZN : Hid (sz + n + q2b.length = nb ∧ (recs ++ [txB x]).flatten.length ≤ sz + n ∧ (recs ++ [txB x]).length ≤ sz + n ∧ q2b.length ≤ g) := Lib.hid (by
                have := HZ.out
                refine ⟨by omega, ?_, ?_, by omega⟩
                · rw [List.flatten_append, List.length_append, List.flatten_singleton, hxl]; omega
                · rw [List.length_append, List.length_singleton]; omega)
              clear h1 h2 h3 hlen1 hlen2 hlen3 hq2l hn hxl hqg hlpos HG HZ
              go_wp2_with (first | (go_at_call 86; refine HE6.out.mono ?_; rintro e w7 ⟨rfl, rfl⟩) | (go_at_call 81; refine HH6.out.mono ?_; rintro e w7 ⟨rfl, rfl⟩) | (go_at_call 83; refine HL6.out.mono ?_; rintro e w7 ⟨rfl, rfl⟩))
              refine hADD.out.mono ?_
              rintro e w7 ⟨rfl, av7, pv7, hJ7, hav7, hpv7, hk7⟩
              have hA7 := HA6.out.beside HJ6.out HB.out.1 HV.out.1 HV.out.2 hk7
              have HA7 := Lib.hid hA7
              have HJ7 := Lib.hid hJ7
              have HV7 : Hid ((∀ k, av7.ownBlock = some k → N ≤ k) ∧ (∀ k, pv7.ownBlock = some k → N ≤ k)) := Lib.hid ⟨fun k e => (hav7 k e).elim (HV.out.1 k) (Nat.le_trans HNW6.out), fun k e => (hpv7 k e).elim (HV.out.2 k) (Nat.le_trans HNW6.out)⟩
              have HK7 : Hid (Kept (fun _ => False) w w7) := Lib.hid (HK6.out.more hk7 (fun i e => by
                have h1 := HS1.out
                have h2 := HB.out.2.1
                rcases e with e | e | e
                · omega
                · exact Nat.le_trans h2 (HV.out.1 i e)
                · exact Nat.le_trans h2 (HV.out.2 i e)))
              have HNW7 : Hid (N ≤ w7.heap.size) := Lib.hid (Nat.le_trans HNW6.out hk7.size)
              clear hA7 hJ7 hav7 hpv7 hk7
              go_wp2_with fail
              go_roundg g
              case measure => omega
              case rel => exact ⟨q2b, recs ++ [txB x], sz + n, av7, pv7, HZN.out.2.2.2, HGN, HA7, HJ7, HV7, Lib.hid ⟨HZN.out.1, HZN.out.2.1, HZN.out.2.2.1⟩, HK7, HNW7⟩
            · have h3b : ((sum : Int) != ((hashB (txB x) : Nat) : Int)) = true := by simp; omega
              have HO3 : Hid (O = (8, D, ⟨s, [], 0, false⟩)) := Lib.hid (by rw [HG.out, if_neg h1, if_pos (.inr h3)]; rfl)
              clear h1 h2 h3
              go_wp2_with (first | (go_at_call 86; refine HE6.out.mono ?_; rintro e w7 ⟨rfl, rfl⟩) | (go_at_call 81; refine HH6.out.mono ?_; rintro e w7 ⟨rfl, rfl⟩))
              (try rw [Exit.noGoto_ret])
              go_ret2
              rw [HO3.out]
              exact ⟨es, clock, DiskAfter.none HD.out HK6.out, fun _ => rfl, fun h => by simp at h⟩
          · have h2b : (q2.err != 0) = true := by simp [h2]
            have HO3 : Hid (O = (8, D, ⟨s, [], 0, false⟩)) := Lib.hid (by rw [HG.out, if_neg h1, if_pos (.inl h2)]; rfl)
            clear h1 h2
            go_wp2_with (first | (go_at_call 86; refine HE6.out.mono ?_; rintro e w7 ⟨rfl, rfl⟩))
            (try rw [Exit.noGoto_ret])
            go_ret2
            rw [HO3.out]
            exact ⟨es, clock, DiskAfter.none HD.out HK6.out, fun _ => rfl, fun h => by simp at h⟩
  · go_wp2_with fail
    refine hRD.out.mono ?_
    rintro e w3 ⟨B, rfl, hB, hRA, hk3⟩
    have HK3 : Hid (Kept (fun _ => False) w w3) := Lib.hid (HK2.out.more hk3 (fun _ f => f.elim))
    have HA0 := Lib.hid hRA
    have HJ0 : Hid (JAt w3 w1.heap.size b m es clock (.slice none 0 0) (.slice none 0 0) D ⟨s, [], 0, false⟩) := Lib.hid ⟨HD.out.kept HK3.out (fun _ _ f => f), (hk3.block _ HS2.out (fun f => f)).trans HC2.out, World.ownsRow_nil _ _ _ _, World.ownsRow_nil _ _ _ _, (fun g e => by cases e), by simp [JM.all], by simp, by simp, hs⟩
    have HB : Hid (w1.heap.size < B ∧ w.heap.size ≤ w3.heap.size ∧ B < w3.heap.size) := Lib.hid ⟨Nat.lt_of_lt_of_le HS2.out hB, HK3.out.size, by obtain ⟨a, c, -, -, h, -⟩ := hRA.at_; exact h⟩
    obtain ⟨nb, hnb⟩ : ∃ n, bs.length = n := ⟨_, rfl⟩
    have HNB := Lib.hid hnb
    obtain ⟨N, hN⟩ : ∃ n, w3.heap.size = n := ⟨_, rfl⟩
    rw [hN] at HA0 HB
    have HN3 : Hid (N ≤ w3.heap.size) := Lib.hid (by omega)
    obtain ⟨J0, hJ0⟩ : ∃ n, w1.heap.size = n := ⟨_, rfl⟩
    rw [hJ0] at HJ0 HB HS1
    rw [hnb] at HO HLE ⊢
    rw [hJ0]
    clear hB hRA hk3 hRD hnb hN hJ0 HC2 HS2 HK2
    go_wp2_with fail
    go_step3
    go_wp2_with fail
    go_loopg [] nb (fun g wr => ∃ q recs sz av pv, q.length ≤ g ∧ Hid (O = openOf D s nb (jGo g q recs sz)) ∧ Hid (RdrAt wr B N ⟨q, 0⟩) ∧ Hid (JAt wr J0 b m es clock av pv D ⟨s, recs, sz, false⟩) ∧ Hid ((∀ k, av.ownBlock = some k → N ≤ k) ∧ (∀ k, pv.ownBlock = some k → N ≤ k)) ∧ Hid (sz + q.length = nb ∧ recs.flatten.length ≤ sz ∧ recs.length ≤ sz) ∧ Hid (Kept (fun _ => False) w wr) ∧ Hid (N ≤ wr.heap.size))
    case atStart => exact ⟨bs, [], 0, .slice none 0 0, .slice none 0 0, by rw [HNB.out]; exact Nat.le_refl _, HO, HA0, HJ0, Lib.hid ⟨(fun k (e : none = some k) => nomatch e), (fun k (e : none = some k) => nomatch e)⟩, Lib.hid ⟨by rw [Nat.zero_add]; exact HNB.out, by simp, by simp⟩, HK3, HN3⟩
    case round =>
      obtain ⟨q, recs, sz, av, pv, hqg, HG, HA, HJ, HV, HZ, HK, HNW⟩ := hrel
      clear HA0 HJ0 HK3 HO
      have HL := Lib.hid (left_any HA.out)
      by_cases hq0 : q = []
      · have hl0 : q.length = 0 := by rw [hq0]; rfl
        have HG2 : Hid (O = openOf D s nb (some (recs, sz))) := Lib.hid (by rw [HG.out, hq0, jGo_nil])
        simp only [hl0] at HL
        clear hqg
        have HNEW : (∀ k, av.ownBlock = some k → w.heap.size ≤ k) ∧ (∀ k, pv.ownBlock = some k → w.heap.size ≤ k) := ⟨fun k e => Nat.le_trans HB.out.2.1 (HV.out.1 k e), fun k e => Nat.le_trans HB.out.2.1 (HV.out.2 k e)⟩
        clear hl0 hq0
        obtain ⟨-, -, -, -, hd4, -, hfzj⟩ := HJ.out.c
        simp only at hd4
        by_cases hlt : sz < nb
        · have hltb : (sz : Int) < (nb : Int) := by omega
          have HT := Lib.hid (HTR.out wr HK.out sz)
          have HO3 : Hid (O = ((D.truncate s sz).1, (D.truncate s sz).2, ⟨s, recs, sz, false⟩)) := Lib.hid (by rw [HG2.out]; unfold openOf; simp only; rw [if_pos hlt])
          obtain ⟨⟨er, D'⟩, hq⟩ : ∃ q, D.truncate s sz = q := ⟨_, rfl⟩
          rw [hq] at HT HO3
          simp only at HT HO3
          clear hq hlt hfzj
          by_cases he0 : er = 0
          · have he0b : (er != 0) = false := by simp [he0]
            have HE0 := Lib.hid he0
            clear he0
            go_wp2_with (first | (go_at_call 83; refine HL.out.mono ?_; rintro e w4 ⟨rfl, rfl⟩) | (go_at_call 88; refine HT.out.mono ?_; rintro e w8 ⟨rfl, es8, clk8, hA8⟩))
            (try rw [Exit.noGoto_ret])
            go_ret2
            have hda : DiskAfter w b m es D' w8 es8 clk8 := DiskAfter.of_kept HK.out hA8
            rw [HO3.out]
            exact ⟨es8, clk8, hda, fun h => absurd HE0.out h, fun _ => ⟨_, _, _, rfl, HS1.out, HNEW.1, HNEW.2, HJ.out.over hA8.disk hA8.foot hA8.kept⟩⟩
          · have he0b : (er != 0) = true := by simp [he0]
            have HE0 := Lib.hid he0
            clear he0
            go_wp2_with (first | (go_at_call 83; refine HL.out.mono ?_; rintro e w4 ⟨rfl, rfl⟩) | (go_at_call 88; refine HT.out.mono ?_; rintro e w8 ⟨rfl, es8, clk8, hA8⟩))
            (try rw [Exit.noGoto_ret])
            go_ret2
            have hda : DiskAfter w b m es D' w8 es8 clk8 := DiskAfter.of_kept HK.out hA8
            rw [HO3.out]
            exact ⟨es8, clk8, hda, fun _ => rfl, fun h => absurd h HE0.out⟩
        · have hltb : ¬ (sz : Int) < (nb : Int) := by omega
          have HO3 : Hid (O = (0, D, ⟨s, recs, sz, false⟩)) := Lib.hid (by rw [HG2.out]; unfold openOf; simp only; rw [if_neg hlt])
          clear hlt hfzj
          go_wp2_with (go_at_call 83; refine HL.out.mono ?_; rintro e w4 ⟨rfl, rfl⟩)
          (try rw [Exit.noGoto_ret])
          go_ret2
          rw [HO3.out]
          exact ⟨es, clock, DiskAfter.none HD.out HK.out, fun h => absurd rfl h, fun _ => ⟨_, _, _, rfl, HS1.out, HNEW.1, HNEW.2, HJ.out⟩⟩
      · have hlpos : 0 < q.length := List.length_pos_iff.2 hq0
        obtain ⟨g, rfl⟩ : ∃ g, gk = g + 1 := ⟨gk - 1, by omega⟩
        have HT := Lib.hid (textOf_any HA.out 262144 (by omega))
        obtain ⟨⟨x, q1⟩, ht⟩ : ∃ t, (RM.mk q 0).text 262144 = t := ⟨_, rfl⟩
        rw [ht] at HT
        obtain ⟨⟨sum, q2⟩, hx⟩ : ∃ t, q1.word = t := ⟨_, rfl⟩
        rw [jGo_step hq0 ht hx] at HG
        have hlen := text_word_len ht hx
        clear ht hq0
        simp only at HT
        obtain ⟨ql, hql⟩ : ∃ n, q.length = n := ⟨_, rfl⟩
        rw [hql] at HL HG HZ hlen hqg hlpos
        have hlp : decide ((0 : Int) < (ql : Int)) = true := by simp; omega
        clear hql
        go_wp2_with (go_at_call 83; refine HL.out.mono ?_; rintro e w4 ⟨rfl, rfl⟩)
        refine HT.out.mono ?_
        rintro e w4 ⟨rfl, hA4, hk4⟩
        obtain ⟨cc, w5, hcv, hp5, hk5, hs5⟩ := conv_back x (by have := HZ.out; have := HLE.out; unfold maxLen; omega) w4
        have HW := Lib.hid (word_any (hA4.kept hk5 (fun _ f => f.elim)))
        rw [hx] at HW
        simp only at HW
        go_wp2_with fail
        refine HW.out.mono ?_
        rintro e w6 ⟨rfl, hA6, hk6⟩
        have hkr5 : Kept (· = B) wr w5 := hk4.trans hk5 (fun _ _ f => f.elim)
        have hkr6 : Kept (· = B) wr w6 := hkr5.trans hk6 (fun _ _ e => e)
        have HK6 : Hid (Kept (fun _ => False) w w6) := Lib.hid (HK.out.more hkr6 (fun i (e : i = B) => by have := HB.out; have := HS1.out; omega))
        have HBJ : Hid (¬ jourF J0 b m es av pv B) := Lib.hid (by
          rintro (e | e | e | e)
          · have := HB.out; omega
          · have := HV.out.1 _ e; have := HB.out; omega
          · have := HV.out.2 _ e; have := HB.out; omega
          · have := HD.out.lt _ e; have := HB.out; have := HS1.out; omega)
        have HJ6 := Lib.hid (HJ.out.kept hkr6 (fun k hk e => HBJ.out (e ▸ hk)))
        have hp6 : IsB w6 (.slice (some ⟨w4.heap.size, 0, none⟩) x.size cc) (txB x) := hp5.keptF hk6 (fun g e e2 => by
          cases e
          have h1 := hk4.size
          have h2 := HB.out
          have h3 := HNW.out
          simp only at e2
          omega)
        have HNW6 : Hid (N ≤ w6.heap.size) := Lib.hid (Nat.le_trans HNW.out hkr6.size)
        have HE6 := Lib.hid (errOf_any hA6)
        have HP6 := Lib.hid hp6
        have HA6 := Lib.hid hA6
        clear hkr5 hkr6 hA6 hk6 hp6 hA4 hk4 hp5 hk5 HW HT
        by_cases h1 : q2.err = 110
        · have h1b : (q2.err == 110) = true := by simp [h1]
          have HG2 : Hid (O = openOf D s nb (some (recs, sz))) := Lib.hid (by rw [HG.out, if_pos h1])
          clear h1
          have HNEW : (∀ k, av.ownBlock = some k → w.heap.size ≤ k) ∧ (∀ k, pv.ownBlock = some k → w.heap.size ≤ k) := ⟨fun k e => Nat.le_trans HB.out.2.1 (HV.out.1 k e), fun k e => Nat.le_trans HB.out.2.1 (HV.out.2 k e)⟩
          obtain ⟨-, -, -, -, hd4, -, hfzj⟩ := HJ6.out.c
          simp only at hd4
          by_cases hlt : sz < nb
          · have hltb : (sz : Int) < (nb : Int) := by omega
            have HT := Lib.hid (HTR.out w6 HK6.out sz)
            have HO3 : Hid (O = ((D.truncate s sz).1, (D.truncate s sz).2, ⟨s, recs, sz, false⟩)) := Lib.hid (by rw [HG2.out]; unfold openOf; simp only; rw [if_pos hlt])
            obtain ⟨⟨er, D'⟩, hq⟩ : ∃ q, D.truncate s sz = q := ⟨_, rfl⟩
            rw [hq] at HT HO3
            simp only at HT HO3
            clear hq hlt hfzj
            by_cases he0 : er = 0
            · have he0b : (er != 0) = false := by simp [he0]
              have HE0 := Lib.hid he0
              clear he0
              go_wp2_with (first | (go_at_call 86; refine HE6.out.mono ?_; rintro e w7 ⟨rfl, rfl⟩) | (go_at_call 88; refine HT.out.mono ?_; rintro e w8 ⟨rfl, es8, clk8, hA8⟩))
              (try rw [Exit.noGoto_ret])
              go_ret2
              have hda : DiskAfter w b m es D' w8 es8 clk8 := DiskAfter.of_kept HK6.out hA8
              rw [HO3.out]
              exact ⟨es8, clk8, hda, fun h => absurd HE0.out h, fun _ => ⟨_, _, _, rfl, HS1.out, HNEW.1, HNEW.2, HJ6.out.over hA8.disk hA8.foot hA8.kept⟩⟩
            · have he0b : (er != 0) = true := by simp [he0]
              have HE0 := Lib.hid he0
              clear he0
              go_wp2_with (first | (go_at_call 86; refine HE6.out.mono ?_; rintro e w7 ⟨rfl, rfl⟩) | (go_at_call 88; refine HT.out.mono ?_; rintro e w8 ⟨rfl, es8, clk8, hA8⟩))
              (try rw [Exit.noGoto_ret])
              go_ret2
              have hda : DiskAfter w b m es D' w8 es8 clk8 := DiskAfter.of_kept HK6.out hA8
              rw [HO3.out]
              exact ⟨es8, clk8, hda, fun _ => rfl, fun h => absurd h HE0.out⟩
          · have hltb : ¬ (sz : Int) < (nb : Int) := by omega
            have HO3 : Hid (O = (0, D, ⟨s, recs, sz, false⟩)) := Lib.hid (by rw [HG2.out]; unfold openOf; simp only; rw [if_neg hlt])
            clear hlt hfzj
            go_wp2_with (go_at_call 86; refine HE6.out.mono ?_; rintro e w7 ⟨rfl, rfl⟩)
            (try rw [Exit.noGoto_ret])
            go_ret2
            rw [HO3.out]
            exact ⟨es, clock, DiskAfter.none HD.out HK6.out, fun h => absurd rfl h, fun _ => ⟨_, _, _, rfl, HS1.out, HNEW.1, HNEW.2, HJ6.out⟩⟩
        · have h1b : (q2.err == 110) = false := by simp [h1]
          by_cases h2 : q2.err = 0
          · have h2b : (q2.err != 0) = false := by simp [h2]
            have HH6 := Lib.hid (hash_any w6 (some ⟨w4.heap.size, 0, none⟩) cc (txB x) (by rw [txB_length]; exact HP6.out))
            rw [txB_length] at HH6
            by_cases h3 : sum = hashB (txB x)
            · have h3b : ((sum : Int) != ((hashB (txB x) : Nat) : Int)) = false := by simp [h3]
              obtain ⟨q2b, rfl⟩ : ∃ z, q2 = ⟨z, 0⟩ := ⟨q2.bs, by cases q2; simp only at h2; rw [h2]⟩
              obtain ⟨hlen1, hlen2, hlen3⟩ := hlen
              have hlen3 := hlen3 rfl
              have HL6 := Lib.hid (left_any HA6.out)
              simp only at HL6 HG hlen1 hlen2 hlen3
              obtain ⟨q2l, hq2l⟩ : ∃ z, q2b.length = z := ⟨_, rfl⟩
              rw [hq2l] at HL6 HG hlen2 hlen3
              obtain ⟨n, hn⟩ : ∃ n, ql - q2l = n := ⟨_, rfl⟩
              rw [hn] at HG
              have hxl := txB_length x
              have hADD := Lib.hid (add_sharp HJ6.out (some ⟨w4.heap.size, 0, none⟩) cc (txB x) (by rw [hxl]; exact HP6.out) n (by have := HZ.out; have := HLE.out; show (List.flatten recs).length + _ ≤ _; omega) (by have := HZ.out; have := HLE.out; show sz + _ ≤ _; omega) (by have := HZ.out; have := HLE.out; show recs.length + 1 ≤ _; omega))
              rw [hxl] at hADD
              have hsub : (ql : Int) - (q2l : Int) = (n : Int) := by omega
              have hnM : n ≤ 4194304 := by have := HZ.out; have := HLE.out; omega
              have HGN : Hid (O = openOf D s nb (jGo g q2b (recs ++ [txB x]) (sz + n))) := Lib.hid (by rw [HG.out, if_neg (by simp), if_neg (by simp [h3])])
              have HZN : Hid (sz + n + q2b.length = nb ∧ (recs ++ [txB x]).flatten.length ≤ sz + n ∧ (recs ++ [txB x]).length ≤ sz + n ∧ q2b.length ≤ g) := Lib.hid (by
                have := HZ.out
                refine ⟨by omega, ?_, ?_, by omega⟩
                · rw [List.flatten_append, List.length_append, List.flatten_singleton, hxl]; omega
                · rw [List.length_append, List.length_singleton]; omega)
              clear h1 h2 h3 hlen1 hlen2 hlen3 hq2l hn hxl hqg hlpos HG HZ
              go_wp2_with (first | (go_at_call 86; refine HE6.out.mono ?_; rintro e w7 ⟨rfl, rfl⟩) | (go_at_call 81; refine HH6.out.mono ?_; rintro e w7 ⟨rfl, rfl⟩) | (go_at_call 83; refine HL6.out.mono ?_; rintro e w7 ⟨rfl, rfl⟩))
              refine hADD.out.mono ?_
              rintro e w7 ⟨rfl, av7, pv7, hJ7, hav7, hpv7, hk7⟩
              have hA7 := HA6.out.beside HJ6.out HB.out.1 HV.out.1 HV.out.2 hk7
              have HA7 := Lib.hid hA7
              have HJ7 := Lib.hid hJ7
              have HV7 : Hid ((∀ k, av7.ownBlock = some k → N ≤ k) ∧ (∀ k, pv7.ownBlock = some k → N ≤ k)) := Lib.hid ⟨fun k e => (hav7 k e).elim (HV.out.1 k) (Nat.le_trans HNW6.out), fun k e => (hpv7 k e).elim (HV.out.2 k) (Nat.le_trans HNW6.out)⟩
              have HK7 : Hid (Kept (fun _ => False) w w7) := Lib.hid (HK6.out.more hk7 (fun i e => by
                have h1 := HS1.out
                have h2 := HB.out.2.1
                rcases e with e | e | e
                · omega
                · exact Nat.le_trans h2 (HV.out.1 i e)
                · exact Nat.le_trans h2 (HV.out.2 i e)))
              have HNW7 : Hid (N ≤ w7.heap.size) := Lib.hid (Nat.le_trans HNW6.out hk7.size)
              clear hA7 hJ7 hav7 hpv7 hk7
              go_wp2_with fail
              go_roundg g
              case measure => omega
              case rel => exact ⟨q2b, recs ++ [txB x], sz + n, av7, pv7, HZN.out.2.2.2, HGN, HA7, HJ7, HV7, Lib.hid ⟨HZN.out.1, HZN.out.2.1, HZN.out.2.2.1⟩, HK7, HNW7⟩
            · have h3b : ((sum : Int) != ((hashB (txB x) : Nat) : Int)) = true := by simp; omega
              have HO3 : Hid (O = (8, D, ⟨s, [], 0, false⟩)) := Lib.hid (by rw [HG.out, if_neg h1, if_pos (.inr h3)]; rfl)
              clear h1 h2 h3
              go_wp2_with (first | (go_at_call 86; refine HE6.out.mono ?_; rintro e w7 ⟨rfl, rfl⟩) | (go_at_call 81; refine HH6.out.mono ?_; rintro e w7 ⟨rfl, rfl⟩))
              (try rw [Exit.noGoto_ret])
              go_ret2
              rw [HO3.out]
              exact ⟨es, clock, DiskAfter.none HD.out HK6.out, fun _ => rfl, fun h => by simp at h⟩
          · have h2b : (q2.err != 0) = true := by simp [h2]
            have HO3 : Hid (O = (8, D, ⟨s, [], 0, false⟩)) := Lib.hid (by rw [HG.out, if_neg h1, if_pos (.inl h2)]; rfl)
            clear h1 h2
            go_wp2_with (first | (go_at_call 86; refine HE6.out.mono ?_; rintro e w7 ⟨rfl, rfl⟩))
            (try rw [Exit.noGoto_ret])
            go_ret2
            rw [HO3.out]
            exact ⟨es, clock, DiskAfter.none HD.out HK6.out, fun _ => rfl, fun h => by simp at h⟩
end Go.Proofs.YtemilbemdlpkaaaGreatDoor

/- journal.Each: the maker, and the closure's contract. -/
namespace Go.Proofs.YtemilbemdlpkaaaGreatDoor
open Go.RowKit Go.Shelf

attribute [local go_sem] Oper.semAt_some

/-- These blocks are as they were. -/
structure KeepS (S : Nat → Prop) (W W' : World) : Prop where
  size : W.heap.size ≤ W'.heap.size
  same : ∀ k, S k → W'.heap[k]? = W.heap[k]?
theorem KeepS.trans {S : Nat → Prop} {A B C : World} (h : KeepS S A B) (k : KeepS S B C) : KeepS S A C := ⟨Nat.le_trans h.size k.size, fun i hi => (k.same i hi).trans (h.same i hi)⟩
theorem keepS_b {S : Nat → Prop} {w : World} (hS : ∀ k, S k → k < w.heap.size) (W : World) (l : Nat) (o o' : Obj) (hl : w.heap.size ≤ l) (_ : W.heap[l]? = some o) (_ : o.isCells = false) (_ : o.isWalk = false) : KeepS S W (W.putObj l o') :=
  ⟨(grownBy_putObj' W l o').size, fun k hk => World.putObj_heap_other (by have := hS k hk; omega)⟩
theorem KeepS.of_kept {S G : Nat → Prop} {W W' : World} (h : Kept G W W') (hS : ∀ k, S k → k < W.heap.size) (hG : ∀ k, S k → ¬ G k) : KeepS S W W' := ⟨h.size, fun k hk => h.block k (hS k hk) (hG k hk)⟩

theorem DiskAt.same {w w' : World} {b m : Nat} {es : Array MapEntry} {clock : Nat} {D : DM} (h : DiskAt w b m es clock D) (hb : ∀ k, diskF b m es k → w'.heap[k]? = w.heap[k]?) : DiskAt w' b m es clock D :=
  ⟨(hb b (.inl rfl)).trans h.cell, (hb m (.inr (.inl rfl))).trans h.map, h.stamped, h.rel.mono fun e he _ ho => OwnB.kept ho fun g hg => hb g (.inr (.inr ⟨e, he, hg⟩)), h.apart, h.ok⟩
theorem rowSame {b : Nat} {w w' : World} {t k : Nat} {v : Value} {n : Nat} {l : List Value} (h : w.ownsRow b t k v n l) (hk : ∀ g, v.ownBlock = some g → w'.heap[g]? = w.heap[g]?) : w'.ownsRow b t k v n l := by
  refine ⟨h.1, ?_⟩
  rcases h.2 with h2 | ⟨g, cap, cur, rfl, h3, h4, h5⟩
  · exact .inl h2
  · exact .inr ⟨g, cap, cur, rfl, h3, (hk g rfl).trans h4, h5⟩
theorem JAt.same {w w' : World} {j b m : Nat} {es : Array MapEntry} {clock : Nat} {av pv : Value} {D : DM} {J : JM} (h : JAt w j b m es clock av pv D J) (hb : ∀ k, jourF j b m es av pv k → w'.heap[k]? = w.heap[k]?) : JAt w' j b m es clock av pv D J :=
  ⟨h.disk.same (fun k hk => hb k (.inr (.inr (.inr hk)))), (hb j (.inl rfl)).trans h.cell, OwnB.kept h.all (fun g e => hb g (.inr (.inl e))), rowSame h.parts (fun g e => hb g (.inr (.inr (.inl e)))), h.sep, h.small⟩

theorem jeach_any (o : Option Addr) (w : World) : Calls Tryz.prog 42 #[.pointer o] w fun e w' => e = .returned (.func (.func 89) #[] #[.pointer (some ⟨w.heap.size, 0, none⟩)]) ∧ w' = w.alloc (.cells #[.pointer o] 89) := by
  go_enter Tryz.func42, Tryz.ntmps42
  go_wp2_with fail
  go_ret
  exact ⟨rfl, rfl⟩

/-- What a round of Each hands out. -/
def recV (recs : List (List UInt8)) (x : Nat × Value × List UInt8) (W : World) : Prop := IsB W x.2.1 x.2.2 ∧ recs[x.1]? = some x.2.2
def recArgs (x : Nat × Value × List UInt8) : Array Value := #[.int .i64 x.1, x.2.1]

set_option maxRecDepth 100000 in
set_option maxHeartbeats 1000000 in
theorem jeach_seq {w : World} {j b m : Nat} {es : Array MapEntry} {clock : Nat} {av pv : Value} {D : DM} {J : JM} (n : Nat) (hn : 2 ≤ n) (Bs : Nat) (h : JAt w j b m es clock av pv D J) (hBs : w.heap[Bs]? = some (.cells #[.pointer (some ⟨j, 0, none⟩)] 89 (0, 0))) :
    SeqV n Tryz.prog 89 #[.pointer (some ⟨Bs, 0, none⟩)] recArgs (recV J.recs) (KeepS (fun k => k = Bs ∨ jourF j b m es av pv k)) (fun xs => xs.map (·.2.2) = J.recs) (fun pre => pre.map (·.2.2) <+: J.recs) (fun pre x => pre.map (·.2.2) ++ [x.2.2] <+: J.recs) w := by
  intro l JJ Jx W hW hJ hY h0
  have hkW : Kept (fun _ => False) w W := Kept.of_below (Nat.le_refl _) hW
  have HB := Lib.hid (hW.block Bs (Array.getElem?_eq_some_iff.1 hBs).1 |>.trans hBs)
  have HJ := Lib.hid (h.keptN hkW)
  have HY := Lib.hid hY
  have HA := Lib.hid hJ
  have hLn := jlen_any HJ.out
  have c0 : W.cell? ⟨Bs, 0, none⟩ = some (.pointer (some ⟨j, 0, none⟩)) := by simp [World.cell?, HB.out]
  clear hY hJ h hBs hkW hW
  have HM : Hid (J.recs.length ≤ 4194304) := Lib.hid HJ.out.small.2.2.1
  obtain ⟨N, hN⟩ : ∃ N, J.recs.length = N := ⟨_, rfl⟩
  rw [hN] at hLn HM
  have HN := Lib.hid hN
  have HL := Lib.hid hLn
  have hNM : N ≤ 4194304 := HM.out
  clear hN hLn
  refine callsIn_of_wp Tryz.func89 rfl trivial ?_ rfl
  simp only [Tryz.ntmps89, List.size_toArray, List.length_cons, List.length_nil, Nat.reduceAdd, Nat.reduceSub, Array.replicate_succ, Array.replicate_zero, List.push_toArray, List.append_toArray, List.nil_append, List.cons_append]
  gi_wp2_with fail
  refine ⟨trivial, fun _ => by omega, (callsIn_wide.2 HL.out).mono ?_⟩
  rintro e W1 ⟨rfl, rfl⟩
  gi_wp2_with fail
  gi_loopw [6] (fun i wr => ∃ (k : Nat) (pre : List (Nat × Value × List UInt8)), k ≤ N ∧ i = .int .i64 k ∧ pre.map (·.2.2) = J.recs.take k ∧ JJ pre wr ∧ KeepS (fun k => k = Bs ∨ jourF j b m es av pv k) W wr) (fun i _ => N - (intOf i).toNat)
  case atStart => exact ⟨0, [], Nat.zero_le _, rfl, rfl, h0, Nat.le_refl _, fun _ _ => rfl⟩
  case round =>
    obtain ⟨k, pre, hk, rfl, hpre, hJs, hks⟩ := hrel
    have hjr : JAt wr j b m es clock av pv D J := HJ.out.same (fun i hi => hks.same i (.inr hi))
    have cr : wr.cell? ⟨Bs, 0, none⟩ = some (.pointer (some ⟨j, 0, none⟩)) := (World.cell?_of_block (w := W) (a := ⟨Bs, 0, none⟩) (hks.same Bs (.inl rfl))).trans c0
    by_cases hlt : k < N
    · have hkr : k < J.recs.length := by rw [HN.out]; exact hlt
      have HP := Lib.hid (payload_any hjr k hkr)
      have HR := Lib.hid hjr
      clear hjr
      gi_wp2_with fail
      refine ⟨trivial, fun _ => by omega, (callsIn_wide.2 HP.out).mono ?_⟩
      rintro e w2 ⟨v2, rfl, hf⟩
      have hJ2 : JJ pre w2 := HA.out _ _ _ none hJs (hf.kept.grownBy none) (fun r e => by cases e)
      obtain ⟨fn, tmps, assign, body, hy, hR⟩ := HY.out pre (k, v2, J.recs[k]) w2 hJ2 ⟨hf.own.isB, List.getElem?_eq_getElem hkr⟩ (by rw [hpre]; exact (List.take_succ_eq_append_getElem hkr) ▸ List.take_prefix _ _)
      unfold recArgs at hy
      simp only at hy
      have HF := Lib.hid hf
      clear hf
      gi_wp2
      refine ⟨fun _ => by omega, hR.mono ?_⟩
      have hpre2 : (pre ++ [(k, v2, J.recs[k])]).map (·.2.2) = J.recs.take (k + 1) := by rw [List.map_append, hpre, List.take_succ_eq_append_getElem hkr]; rfl
      rintro e w3 (⟨rfl, hJ3, hk3⟩ | ⟨rfl, hJx3⟩)
      · gi_wp2
        go_roundw
        case rel =>
          refine ⟨k + 1, _, by omega, by go_num, hpre2, hJ3, (hks.trans (KeepS.of_kept HF.out.kept (fun i hi => ?_) (fun _ _ f => f))).trans hk3⟩
          rcases hi with rfl | hi
          · exact World.block_lt_of_cell? wr _ cr
          · exact HR.out.lt i hi
        case measure => simp [intOf]; omega
      · gi_wp2
        refine bodyPost_ret (results_none rfl _ _ _) rfl ?_
        exact ⟨⟨_, rfl⟩, .inr ⟨_, by rw [hpre2]; exact List.take_prefix _ _, hJx3⟩⟩
    · rw [List.take_of_length_le (by have := HN.out; omega)] at hpre
      gi_wp2
      go_end0
      exact ⟨⟨_, rfl⟩, .inl ⟨pre, hpre, hJs⟩⟩
end Go.Proofs.YtemilbemdlpkaaaGreatDoor
