/- memo: a record is taken. -/
import Derived.Test.YtemilbemdlpkaaaGreatDoorPai
import Derived.Test.YtemilbemdlpkaaaGreatDoorPap
import Derived.Test.YtemilbemdlpkaaaGreatDoorPbo
namespace Go.Proofs.YtemilbemdlpkaaaGreatDoor
open Go.RowKit Go.ChangeMaps Go.MapKept
set_option linter.unusedSimpArgs false

theorem RM.uint_len (r : RM) (h : r.uint.2.err = 0) : r.err = 0 ∧ r.uint.2.bs.length < r.bs.length := by
  unfold RM.uint at h ⊢
  by_cases he : r.err = 0
  · rw [if_pos he] at h ⊢
    by_cases h2 : (numB r.bs).2.2 = 0
    · rw [if_pos h2] at h ⊢
      have hnum := numFrom_le 0 0 r.bs
      rw [show numFrom 0 0 r.bs = numB r.bs from rfl] at hnum
      obtain ⟨n1, n2⟩ := hnum
      have n3 := n2 h2
      simp only [List.length_drop]
      exact ⟨he, by omega⟩
    · rw [if_neg h2] at h; exact absurd h h2
  · rw [if_neg he] at h; exact absurd h he
theorem recGo_zero (f : Nat) (r : RM) (s : RecS) : recGo18 f 0 r s = (s, r) := by cases f <;> simp [recGo18]
theorem recGo_err (f n : Nat) (r : RM) (s : RecS) (h : r.err ≠ 0) : recGo18 f n r s = (s, r) := by cases f <;> simp [recGo18, h]
theorem recGo_stop (f n : Nat) (r : RM) (s : RecS) (hn : n ≠ 0) (h : r.err = 0) (h2 : r.uint.2.err ≠ 0) : recGo18 (f + 1) n r s = (s, r.uint.2) := by
  rw [recGo18, if_neg (by simp [hn, h]), if_pos h2]
theorem recGo_step (f n : Nat) (r : RM) (s : RecS) (hn : n ≠ 0) (h : r.err = 0) (h2 : r.uint.2.err = 0) : recGo18 (f + 1) n r s = recGo18 f (n - 1) r.uint.2 (s.step r.uint.1) := by
  rw [recGo18, if_neg (by simp [hn, h]), if_neg (by simp [h2])]
theorem RecS.step_len {s : RecS} (h : s.l.length ≤ 4) (x : Nat) : (s.step x).l.length ≤ 4 := by
  unfold RecS.step
  simp only
  split
  · rename_i h2; rw [List.length_append]; simp only [List.length_cons, List.length_nil]; omega
  · exact h
theorem RecS.step_last {s : RecS} (h : s.last ≤ 4294967296) (x : Nat) : (s.step x).last ≤ 4294967296 := by
  unfold RecS.step
  simp only
  split <;> omega

def memRow (dp jp : Value) (file : ByteArray) (kv tv : Value) (last : Nat) (dead : Bool) : Obj := .cells #[dp, jp, .string file, kv, tv, .int .i64 last, .bool dead] 92 (0, 0)
theorem memRow_last {w : World} {p : Nat} {dp jp : Value} {file : ByteArray} {kv tv : Value} {last : Nat} {dead : Bool} (h : w.heap[p]? = some (memRow dp jp file kv tv last dead)) (n : Nat) : (w.setCell ⟨p, 5, none⟩ (.int .i64 n)).heap[p]? = some (memRow dp jp file kv tv n dead) := by
  unfold memRow at *
  rw [heap_setCell_row h]
  simp
theorem memRow_cells {w : World} {p : Nat} {dp jp : Value} {file : ByteArray} {kv tv : Value} {last : Nat} {dead : Bool} (h : w.heap[p]? = some (memRow dp jp file kv tv last dead)) :
    w.cell? ⟨p, 0, none⟩ = some dp ∧ w.cell? ⟨p, 1, none⟩ = some jp ∧ w.cell? ⟨p, 2, none⟩ = some (.string file) ∧ w.cell? ⟨p, 3, none⟩ = some kv ∧ w.cell? ⟨p, 4, none⟩ = some tv ∧ w.cell? ⟨p, 5, none⟩ = some (.int .i64 last) ∧ w.cell? ⟨p, 6, none⟩ = some (.bool dead) ∧ ∀ i, w.frozen? ⟨p, i, none⟩ = false := by
  unfold memRow at h
  refine ⟨?_, ?_, ?_, ?_, ?_, ?_, ?_, fun i => ?_⟩ <;> simp [World.cell?, World.frozen?, h]

/-- A reader is not where a memo lies. -/
theorem RdrAt.besideP {w w' : World} {B N p : Nat} {q : RM} {dp jp : Value} {file : ByteArray} {kv tv : Value} {last : Nat} {dead : Bool} (h : RdrAt w B N q) (hc : w.heap[p]? = some (memRow dp jp file kv tv last dead))
    (hnv : ∀ n : Int, dp ≠ .int .u8 n ∧ jp ≠ .int .u8 n ∧ kv ≠ .int .u8 n ∧ tv ≠ .int .u8 n) (hpB : p ≠ B) (hk : Kept (fun k => k = p) w w') : RdrAt w' B N q := by
  obtain ⟨a, c, hcB, hb, hN, hn⟩ := h.at_
  refine ⟨a, c, (hk.block B (Array.getElem?_eq_some_iff.1 hcB).1 (fun e => hpB e.symm)).trans hcB, hb.keptS hk (fun hne g hg e => ?_), hN, hn⟩
  obtain ⟨a', c', hv, -, -, h3⟩ := hb
  cases hv
  rcases h3 with h3 | ⟨g', o, rfl, -, hcell⟩
  · exact hne h3
  · cases hg
    obtain ⟨x, l, hx⟩ := List.exists_cons_of_ne_nil hne
    have h5 := hcell 0 (.int .u8 (x.toNat : Int)) (by rw [hx]; rfl)
    have e2 : g' = p := e
    rw [e2] at h5
    unfold memRow at hc
    obtain ⟨n1, n2, n3, n4⟩ := hnv (x.toNat : Int)
    simp only [World.cell?, hc] at h5
    match o, h5 with
    | 0, h5 => simp at h5; exact n1 h5
    | 1, h5 => simp at h5; exact n2 h5
    | 2, h5 => simp at h5
    | 3, h5 => simp at h5; exact n3 h5
    | 4, h5 => simp at h5; exact n4 h5
    | 5, h5 => simp at h5
    | 6, h5 => simp at h5
    | o + 7, h5 => simp at h5
set_option maxRecDepth 100000 in
set_option maxHeartbeats 600000 in
theorem recTake_any {w : World} {p : Nat} {dp jp : Value} {file : ByteArray} {kv tv : Value} {last : Nat} {dead : Bool} (hc : w.heap[p]? = some (memRow dp jp file kv tv last dead)) (a : Option Addr) (c : Nat) (bs : List UInt8) (h : IsB w (.slice a bs.length c) bs) (hlen : bs.length ≤ 100000000) (hlast : last ≤ 4294967296) (hnv : ∀ n : Int, dp ≠ .int .u8 n ∧ jp ≠ .int .u8 n ∧ kv ≠ .int .u8 n ∧ tv ≠ .int .u8 n) :
    Calls Tryz.prog 43 #[.pointer (some ⟨p, 0, none⟩), .slice a bs.length c] w fun e w' => ∃ v, e = .returned (.tuple #[v, .bool (recOf last bs).right]) ∧ OwnZ w.heap.size w' v (recOf last bs).l ∧ w'.heap[p]? = some (memRow dp jp file kv tv (recOf last bs).last dead) ∧ Kept (· = p) w w' := by
  have hR := Lib.hid (reader_any w _ bs h (by omega))
  have hpw := (Array.getElem?_eq_some_iff.1 hc).1
  have HC := Lib.hid hc
  have HNV := Lib.hid hnv
  clear hnv
  obtain ⟨O, hO⟩ : ∃ O, recOf last bs = O := ⟨_, rfl⟩
  obtain ⟨⟨n0, q0⟩, hq0⟩ : ∃ q, (RM.mk bs 0).uint = q := ⟨_, rfl⟩
  obtain ⟨T, hT⟩ : ∃ T, recGo18 bs.length n0 q0 ⟨[], last, true⟩ = T := ⟨_, rfl⟩
  have hOT : O = ⟨T.1.l, T.1.last, T.1.right && T.2.stop == 0⟩ := by rw [← hO, recOf, hq0, hT]
  have hinv : q0.err ≠ 0 ∨ q0.bs.length + 1 ≤ bs.length := by
    by_cases he : q0.err = 0
    · right
      have := RM.uint_len ⟨bs, 0⟩ (by rw [hq0]; exact he)
      rw [hq0] at this
      simp only at this
      omega
    · exact .inl he
  rw [hO]
  have HOT := Lib.hid hOT
  have HT := Lib.hid hT.symm
  have HQ0 := Lib.hid hq0
  have HINV := Lib.hid hinv
  obtain ⟨nb, hnb⟩ : ∃ nb, bs.length = nb := ⟨_, rfl⟩
  rw [hnb] at HT HINV hlen hR ⊢
  clear hO hT hOT hq0 hinv hc h hnb
  go_enter Tryz.func43, Tryz.ntmps43
  go_wp2_with fail
  refine hR.out.mono ?_
  rintro e w1 ⟨B, rfl, hBw, hRA, hk1⟩
  have hU := Lib.hid (uint_any hRA)
  rw [HQ0.out] at hU
  simp only at hU
  obtain ⟨N, hN⟩ : ∃ N, w1.heap.size = N := ⟨_, rfl⟩
  rw [hN] at hU hRA
  have HB : Hid (w.heap.size ≤ B ∧ B < N ∧ p < w.heap.size ∧ w1.heap.size = N) := Lib.hid ⟨hBw, by obtain ⟨a, c, -, -, h, -⟩ := hRA.at_; exact h, hpw, hN⟩
  have HK1 := Lib.hid hk1
  clear hRA hk1 hN hBw hpw
  go_wp2_with fail
  refine hU.out.mono ?_
  rintro e w2 ⟨rfl, hA2, hk2⟩
  have HA2 := Lib.hid hA2
  have HK2 : Hid (Kept (fun k => k = p ∨ k = B) w1 w2) := Lib.hid (hk2.mono (fun _ _ e => .inr e))
  have HC2 : Hid (w2.heap[p]? = some (memRow dp jp file kv tv last dead)) := Lib.hid ((hk2.block p (by have := HB.out; omega) (by have := HB.out; omega)).trans ((HK1.out.block p HB.out.2.2.1 (fun f => f)).trans HC.out))
  clear hA2 hk2 hU
  go_wp2_with fail
  go_loopg [7, 8, 9] (nb + 1) (fun g rv lv nv wr => ∃ (f n : Nat) (q : RM) (s : RecS) (la : Option Addr) (lc sl : Nat), f + 1 ≤ g ∧ rv = .bool s.right ∧ lv = .slice la sl lc ∧ nv = .int .u64 n ∧ Hid (T = recGo18 f n q s) ∧ Hid (q.err ≠ 0 ∨ q.bs.length + 1 ≤ f) ∧ Hid (RdrAt wr B N q) ∧ Hid (OwnZ N wr (.slice la sl lc) s.l) ∧ Hid (wr.heap[p]? = some (memRow dp jp file kv tv s.last dead)) ∧ Hid (Kept (fun k => k = p ∨ k = B) w1 wr) ∧ Hid (s.l.length = sl ∧ sl ≤ 4 ∧ s.last ≤ 4294967296) ∧ n < 18446744073709551616)
  case atStart =>
    exact ⟨nb, n0, q0, ⟨[], last, true⟩, none, 0, 0, Nat.le_refl _, rfl, rfl, rfl, HT, HINV, HA2, Lib.hid (OwnZ.nil _ _), HC2, HK2, Lib.hid ⟨rfl, Nat.zero_le _, hlast⟩, by have := RM.uint_lt ⟨bs, 0⟩; rw [HQ0.out] at this; exact this⟩
  case round =>
    obtain ⟨f, n, q, s, la, lc, sl, hfg, rfl, rfl, rfl, HTE, HI, HA, HZ, HCC, HK, HL, hn64⟩ := hrel
    clear HA2 HC2 HK2 HT HINV
    have HE := Lib.hid (errOf_any HA.out)
    by_cases hn0 : n = 0
    · subst hn0
      have HTE2 : Hid (T = (s, q)) := Lib.hid (by rw [HTE.out, recGo_zero])
      obtain ⟨hT1, hsl⟩ : T = (s, q) ∧ s.l.length = sl := ⟨HTE2.out, HL.out.1⟩
      have HFIN : Hid (O = ⟨s.l, s.last, s.right && q.stop == 0⟩) := Lib.hid (by rw [HOT.out, hT1])
      have HST := Lib.hid (stop_any HA.out)
      have HKF : Hid (Kept (· = p) w wr) := Lib.hid ⟨HK.out.os.trans HK1.out.os, HK.out.tape.trans HK1.out.tape, HK.out.output.trans HK1.out.output, Nat.le_trans HK1.out.size HK.out.size, fun i hi hne => (HK.out.block i (Nat.lt_of_lt_of_le hi HK1.out.size) (by have := HB.out; omega)).trans (HK1.out.block i hi (fun f => f))⟩
      have HZF : Hid (OwnZ w.heap.size wr (.slice la sl lc) s.l) := Lib.hid (OwnZ.mono HZ.out (by have := HB.out; have := HK1.out.size; omega))
      clear hT1 hsl
      cases hsr : s.right with
      | false =>
        rw [hsr, Bool.false_and] at HFIN
        clear hsr
        go_wp2_with (first | (go_at_call 86; refine HE.out.mono ?_; rintro e w8 ⟨rfl, rfl⟩))
        go_ret2
        rw [HFIN.out]
        exact ⟨_, rfl, HZF.out, HCC.out, HKF.out⟩
      | true =>
        rw [hsr, Bool.true_and] at HFIN
        clear hsr
        go_wp2_with (first | (go_at_call 86; refine HE.out.mono ?_; rintro e w8 ⟨rfl, rfl⟩) | (go_at_call 93; refine HST.out.mono ?_; rintro e w9 ⟨rfl, rfl⟩))
        go_ret2
        rw [HFIN.out]
        exact ⟨_, rfl, HZF.out, HCC.out, HKF.out⟩
    · have hnp : decide ((0 : Int) < (n : Int)) = true := by simp; omega
      by_cases he : q.err = 0
      · have heb : (q.err == 0) = true := by simp [he]
        have hf0 : ∃ f', f = f' + 1 := by
          rcases HI.out with h1 | h1
          · exact absurd he h1
          · exact ⟨f - 1, by omega⟩
        obtain ⟨f', rfl⟩ := hf0
        have hU := Lib.hid (uint_any HA.out)
        have hulen := RM.uint_len q
        have hult := RM.uint_lt q
        by_cases h2 : q.uint.2.err = 0
        · have HTE2 := Lib.hid (HTE.out.trans (recGo_step f' n q s hn0 he h2))
          have hq2 := (hulen h2).2
          have HI2 : Hid (q.uint.2.err ≠ 0 ∨ q.uint.2.bs.length + 1 ≤ f') := Lib.hid (.inr (by rcases HI.out with h1 | h1; exact absurd he h1; omega))
          obtain ⟨⟨x, q2⟩, hxq⟩ : ∃ u, q.uint = u := ⟨_, rfl⟩
          rw [hxq] at hU HTE2 HI2 h2 hult
          simp only at hU HTE2 HI2 h2 hult
          have h2b : (q2.err != 0) = false := by simp [h2]
          clear hq2 hulen h2 he hxq HTE HI
          go_wp2_with (first | (go_at_call 86; refine HE.out.mono ?_; rintro e w8 ⟨rfl, rfl⟩))
          refine hU.out.mono ?_
          rintro e w3 ⟨rfl, hA3, hk3⟩
          have HE3 := Lib.hid (errOf_any hA3)
          have HA3 := Lib.hid hA3
          have HK3 : Hid (Kept (fun k => k = p ∨ k = B) w1 w3) := Lib.hid (HK.out.trans hk3 (fun _ _ e => .inr e))
          have HC3 : Hid (w3.heap[p]? = some (memRow dp jp file kv tv s.last dead)) := Lib.hid ((hk3.block p (Array.getElem?_eq_some_iff.1 HCC.out).1 (by have := HB.out; omega)).trans HCC.out)
          have HZ3 : Hid (OwnZ N w3 (.slice la sl lc) s.l) := Lib.hid (HZ.out.kept hk3 (fun g hg _ e => by have := HB.out; have : g = B := e; omega))
          clear hA3 hk3 hU
          obtain ⟨-, -, -, -, -, k5, -, kz⟩ := memRow_cells HC3.out
          have kz5 := kz 5
          clear kz
          have hn1 : IntKind.u64.wrap ((n : Int) - 1) = ((n - 1 : Nat) : Int) := by rw [IntKind.wrap_u64]; omega
          have hsl := HL.out.2.1
          have hst := HL.out.2.2
          obtain ⟨mx, hmx⟩ : ∃ mx, max s.last x = mx := ⟨_, rfl⟩
          have hmi : max (s.last : Int) (x : Int) = (mx : Int) := by omega
          have hS : Hid (s.step x = ⟨if s.l.length < 4 ∧ x ≤ 2147483648 then s.l ++ [x] else s.l, if x ≤ 2147483648 then mx else s.last, (if x = 0 ∨ 2147483648 < x ∨ s.l.length = 4 then false else s.right) && (if x ≤ 2147483648 then !decide (x ∈ s.l) else true)⟩) := Lib.hid (by rw [← hmx]; rfl)
          have hmb : mx ≤ 4294967296 ∨ 2147483648 < x := by omega
          clear hmx
          by_cases hbig : 2147483648 < x
          · have hx0 : ((x : Int) == 0) = false := by simp; omega
            have hSS : Hid (s.step x = ⟨s.l, s.last, false⟩) := Lib.hid (by
              rw [hS.out, if_neg (by omega), if_neg (by omega), if_pos (.inr (.inl hbig))]; rfl)
            rw [hSS.out] at HTE2
            go_wp2_with (first | (go_at_call 86; refine HE3.out.mono ?_; rintro e w8 ⟨rfl, rfl⟩))
            all_goals
              go_roundg (gk - 1)
              case measure => omega
              case rel => exact ⟨f', n - 1, q2, ⟨s.l, s.last, false⟩, la, lc, sl, by omega, rfl, rfl, rfl, HTE2, HI2, HA3, HZ3, HC3, HK3, HL, by omega⟩
          · obtain ⟨w4, hw4⟩ : ∃ X, w3.setCell ⟨p, 5, none⟩ (.int .i64 (mx : Int)) = X := ⟨_, rfl⟩
            have hk34 : Kept (fun k => k = p) w3 w4 := by rw [← hw4]; exact (Kept.refl (fun k => k = p) w3).setCell (p := ⟨p, 5, none⟩) (fun _ => rfl) _
            have HA4 := Lib.hid (HA3.out.besideP HC3.out HNV.out (by have := HB.out; omega) hk34)
            have HC4 : Hid (w4.heap[p]? = some (memRow dp jp file kv tv mx dead)) := Lib.hid (by rw [← hw4]; exact memRow_last HC3.out mx)
            have HZ4 : Hid (OwnZ N w4 (.slice la sl lc) s.l) := Lib.hid (HZ3.out.kept hk34 (fun g hg _ e => by have := HB.out; have : g = p := e; omega))
            have HK4 : Hid (Kept (fun k => k = p ∨ k = B) w1 w4) := Lib.hid (HK3.out.trans hk34 (fun _ _ e => .inl e))
            have hmb2 : mx ≤ 4294967296 := by omega
            have hcvx : IntKind.i64.wrap (x : Int) = (x : Int) := by rw [IntKind.wrap_i64]; omega
            have HW4 := Lib.hid hw4
            have hS2 : Hid (s.step x = ⟨if sl < 4 then s.l ++ [x] else s.l, mx, (if x = 0 ∨ sl = 4 then false else s.right) && !decide (x ∈ s.l)⟩) := Lib.hid (by
              rw [hS.out, HL.out.1]
              have hx : x ≤ 2147483648 := by omega
              simp only [hx, and_true, if_true, hbig, false_or])
            clear hw4 hk34 HA3 HC3 HZ3 HK3 hmb HA HZ HCC HK hst hS
            have HCT := Lib.hid (containsZ_any N w4 la lc s.l x (by rw [HL.out.1]; exact HZ4.out))
            rw [HL.out.1] at HCT
            by_cases h4 : sl < 4
            · have h4b : ((sl : Int) == 4) = false := by simp; omega
              rw [if_pos h4] at hS2
              by_cases hx0 : x = 0
              · have hx0b : ((x : Int) == 0) = true := by simp [hx0]
                rw [if_pos (.inl hx0), Bool.false_and] at hS2
                rw [hS2.out] at HTE2
                clear hx0
                obtain ⟨W5, hW5⟩ : ∃ X, w4.alloc (.cells #[.int .i64 (x : Int)] 3) = X := ⟨_, rfl⟩
                have hk5 : Kept (fun _ => False) w4 W5 := by rw [← hW5]; exact (Kept.refl _ _).alloc _
                have h50 : W5.cell? ⟨w4.heap.size, 0, none⟩ = some (.int .i64 (x : Int)) := by rw [← hW5, World.cell?_alloc_new]; rfl
                obtain ⟨v', w', hrun, ho', hg', -⟩ := (HZ4.out.kept hk5 (fun _ _ _ f => f)).push (by have := HB.out; have := HK4.out.size; have := hk5.size; omega) ⟨w4.heap.size, 0, none⟩ x h50 (by have := HL.out; omega)
                have hkp : Kept (fun k => (Value.slice la sl lc).ownBlock = some k) W5 w' := Kept.grown (F := fun k => (Value.slice la sl lc).ownBlock = some k) (Kept.refl _ _) hg' (fun k hk _ => hk)
                have hvb : ∀ g, (Value.slice la sl lc).ownBlock = some g → N ≤ g := fun g e => (HZ4.out.base e).1
                obtain ⟨oa, oc, hov, -, -⟩ := ho'.form
                have hsl1 : (s.l ++ [x]).length = sl + 1 := by rw [List.length_append, HL.out.1]; rfl
                rw [hsl1] at hov
                subst hov
                have hk4' : Kept (fun k => N ≤ k) w4 w' := (hk5.mono (fun _ _ f => f.elim)).trans hkp (fun i _ e => hvb i e)
                have HP : Hid (RdrAt w' B N q2 ∧ w'.heap[p]? = some (memRow dp jp file kv tv mx dead) ∧ OwnZ N w' (.slice oa (sl + 1) oc) (s.l ++ [x]) ∧ Kept (fun k => k = p ∨ k = B) w1 w') := Lib.hid ⟨HA4.out.kept hk4' (fun _ e => e), (hk4'.block p (Array.getElem?_eq_some_iff.1 HC4.out).1 (by have := HB.out; omega)).trans HC4.out, ho', HK4.out.trans hk4' (fun i hi e => by have := HB.out; omega)⟩
                clear hk5 ho' hg' hkp hvb hk4' h50
                have hw4 := HW4.out
                go_wp2_with (first | (go_at_call 86; refine HE3.out.mono ?_; rintro e w8 ⟨rfl, rfl⟩) | (go_at_call 46; refine HCT.out.mono ?_; rintro e w9 ⟨rfl, rfl⟩) | (at_builtin; refine wpList_append_run rfl (.tmp 67) (.tmp 70) #[23, 23] rfl _ _ _ _ rfl rfl hrun ?_))
                go_roundg (gk - 1)
                case measure => omega
                case rel => exact ⟨f', n - 1, q2, ⟨s.l ++ [x], mx, false⟩, oa, oc, sl + 1, by omega, rfl, rfl, rfl, HTE2, HI2, Lib.hid HP.out.1, Lib.hid HP.out.2.2.1, Lib.hid HP.out.2.1, Lib.hid HP.out.2.2.2, Lib.hid ⟨hsl1, by omega, hmb2⟩, by omega⟩
              · have hx0b : ((x : Int) == 0) = false := by simp; omega
                rw [if_neg (by omega)] at hS2
                cases hsr : s.right with
                | false =>
                  rw [hsr, Bool.false_and] at hS2
                  rw [hS2.out] at HTE2
                  clear hx0
                  obtain ⟨W5, hW5⟩ : ∃ X, w4.alloc (.cells #[.int .i64 (x : Int)] 3) = X := ⟨_, rfl⟩
                  have hk5 : Kept (fun _ => False) w4 W5 := by rw [← hW5]; exact (Kept.refl _ _).alloc _
                  have h50 : W5.cell? ⟨w4.heap.size, 0, none⟩ = some (.int .i64 (x : Int)) := by rw [← hW5, World.cell?_alloc_new]; rfl
                  obtain ⟨v', w', hrun, ho', hg', -⟩ := (HZ4.out.kept hk5 (fun _ _ _ f => f)).push (by have := HB.out; have := HK4.out.size; have := hk5.size; omega) ⟨w4.heap.size, 0, none⟩ x h50 (by have := HL.out; omega)
                  have hkp : Kept (fun k => (Value.slice la sl lc).ownBlock = some k) W5 w' := Kept.grown (F := fun k => (Value.slice la sl lc).ownBlock = some k) (Kept.refl _ _) hg' (fun k hk _ => hk)
                  have hvb : ∀ g, (Value.slice la sl lc).ownBlock = some g → N ≤ g := fun g e => (HZ4.out.base e).1
                  obtain ⟨oa, oc, hov, -, -⟩ := ho'.form
                  have hsl1 : (s.l ++ [x]).length = sl + 1 := by rw [List.length_append, HL.out.1]; rfl
                  rw [hsl1] at hov
                  subst hov
                  have hk4' : Kept (fun k => N ≤ k) w4 w' := (hk5.mono (fun _ _ f => f.elim)).trans hkp (fun i _ e => hvb i e)
                  have HP : Hid (RdrAt w' B N q2 ∧ w'.heap[p]? = some (memRow dp jp file kv tv mx dead) ∧ OwnZ N w' (.slice oa (sl + 1) oc) (s.l ++ [x]) ∧ Kept (fun k => k = p ∨ k = B) w1 w') := Lib.hid ⟨HA4.out.kept hk4' (fun _ e => e), (hk4'.block p (Array.getElem?_eq_some_iff.1 HC4.out).1 (by have := HB.out; omega)).trans HC4.out, ho', HK4.out.trans hk4' (fun i hi e => by have := HB.out; omega)⟩
                  clear hk5 ho' hg' hkp hvb hk4' h50
                  have hw4 := HW4.out
                  go_wp2_with (first | (go_at_call 86; refine HE3.out.mono ?_; rintro e w8 ⟨rfl, rfl⟩) | (go_at_call 46; refine HCT.out.mono ?_; rintro e w9 ⟨rfl, rfl⟩) | (at_builtin; refine wpList_append_run rfl (.tmp 67) (.tmp 70) #[23, 23] rfl _ _ _ _ rfl rfl hrun ?_))
                  go_roundg (gk - 1)
                  case measure => omega
                  case rel => exact ⟨f', n - 1, q2, ⟨s.l ++ [x], mx, false⟩, oa, oc, sl + 1, by omega, rfl, rfl, rfl, HTE2, HI2, Lib.hid HP.out.1, Lib.hid HP.out.2.2.1, Lib.hid HP.out.2.1, Lib.hid HP.out.2.2.2, Lib.hid ⟨hsl1, by omega, hmb2⟩, by omega⟩
                | true =>
                  rw [hsr, Bool.true_and] at hS2
                  rw [hS2.out] at HTE2
                  obtain ⟨bm, hbm⟩ : ∃ bm, decide (x ∈ s.l) = bm := ⟨_, rfl⟩
                  rw [hbm] at HCT HTE2
                  clear hx0 hbm
                  obtain ⟨W5, hW5⟩ : ∃ X, w4.alloc (.cells #[.int .i64 (x : Int)] 3) = X := ⟨_, rfl⟩
                  have hk5 : Kept (fun _ => False) w4 W5 := by rw [← hW5]; exact (Kept.refl _ _).alloc _
                  have h50 : W5.cell? ⟨w4.heap.size, 0, none⟩ = some (.int .i64 (x : Int)) := by rw [← hW5, World.cell?_alloc_new]; rfl
                  obtain ⟨v', w', hrun, ho', hg', -⟩ := (HZ4.out.kept hk5 (fun _ _ _ f => f)).push (by have := HB.out; have := HK4.out.size; have := hk5.size; omega) ⟨w4.heap.size, 0, none⟩ x h50 (by have := HL.out; omega)
                  have hkp : Kept (fun k => (Value.slice la sl lc).ownBlock = some k) W5 w' := Kept.grown (F := fun k => (Value.slice la sl lc).ownBlock = some k) (Kept.refl _ _) hg' (fun k hk _ => hk)
                  have hvb : ∀ g, (Value.slice la sl lc).ownBlock = some g → N ≤ g := fun g e => (HZ4.out.base e).1
                  obtain ⟨oa, oc, hov, -, -⟩ := ho'.form
                  have hsl1 : (s.l ++ [x]).length = sl + 1 := by rw [List.length_append, HL.out.1]; rfl
                  rw [hsl1] at hov
                  subst hov
                  have hk4' : Kept (fun k => N ≤ k) w4 w' := (hk5.mono (fun _ _ f => f.elim)).trans hkp (fun i _ e => hvb i e)
                  have HP : Hid (RdrAt w' B N q2 ∧ w'.heap[p]? = some (memRow dp jp file kv tv mx dead) ∧ OwnZ N w' (.slice oa (sl + 1) oc) (s.l ++ [x]) ∧ Kept (fun k => k = p ∨ k = B) w1 w') := Lib.hid ⟨HA4.out.kept hk4' (fun _ e => e), (hk4'.block p (Array.getElem?_eq_some_iff.1 HC4.out).1 (by have := HB.out; omega)).trans HC4.out, ho', HK4.out.trans hk4' (fun i hi e => by have := HB.out; omega)⟩
                  clear hk5 ho' hg' hkp hvb hk4' h50
                  have hw4 := HW4.out
                  go_wp2_with (first | (go_at_call 86; refine HE3.out.mono ?_; rintro e w8 ⟨rfl, rfl⟩) | (go_at_call 46; refine HCT.out.mono ?_; rintro e w9 ⟨rfl, rfl⟩) | (at_builtin; refine wpList_append_run rfl (.tmp 67) (.tmp 70) #[23, 23] rfl _ _ _ _ rfl rfl hrun ?_))
                  go_roundg (gk - 1)
                  case measure => omega
                  case rel => exact ⟨f', n - 1, q2, ⟨s.l ++ [x], mx, !bm⟩, oa, oc, sl + 1, by omega, rfl, rfl, rfl, HTE2, HI2, Lib.hid HP.out.1, Lib.hid HP.out.2.2.1, Lib.hid HP.out.2.1, Lib.hid HP.out.2.2.2, Lib.hid ⟨hsl1, by omega, hmb2⟩, by omega⟩
            · have h44 : sl = 4 := by omega
              have h4b : ((sl : Int) == 4) = true := by simp [h44]
              rw [if_neg h4, if_pos (.inr h44), Bool.false_and] at hS2
              rw [hS2.out] at HTE2
              by_cases hx0 : x = 0
              · have hx0b : ((x : Int) == 0) = true := by simp [hx0]
                clear hx0 h44
                have hw4 := HW4.out
                go_wp2_with (first | (go_at_call 86; refine HE3.out.mono ?_; rintro e w8 ⟨rfl, rfl⟩))
                go_roundg (gk - 1)
                case measure => omega
                case rel => exact ⟨f', n - 1, q2, ⟨s.l, mx, false⟩, la, lc, sl, by omega, rfl, rfl, rfl, HTE2, HI2, HA4, HZ4, HC4, HK4, Lib.hid ⟨HL.out.1, HL.out.2.1, hmb2⟩, by omega⟩
              · have hx0b : ((x : Int) == 0) = false := by simp; omega
                clear hx0 h44
                have hw4 := HW4.out
                go_wp2_with (first | (go_at_call 86; refine HE3.out.mono ?_; rintro e w8 ⟨rfl, rfl⟩))
                go_roundg (gk - 1)
                case measure => omega
                case rel => exact ⟨f', n - 1, q2, ⟨s.l, mx, false⟩, la, lc, sl, by omega, rfl, rfl, rfl, HTE2, HI2, HA4, HZ4, HC4, HK4, Lib.hid ⟨HL.out.1, HL.out.2.1, hmb2⟩, by omega⟩
        · have HTE2 : Hid (T = (s, q.uint.2)) := Lib.hid (by rw [HTE.out, recGo_stop _ _ _ _ hn0 he h2])
          obtain ⟨⟨x, q2⟩, hxq⟩ : ∃ u, q.uint = u := ⟨_, rfl⟩
          rw [hxq] at hU HTE2 h2
          simp only at hU HTE2 h2
          have h2b : (q2.err != 0) = true := by simp [h2]
          clear hulen h2 he hxq HTE HI hult
          go_wp2_with (first | (go_at_call 86; refine HE.out.mono ?_; rintro e w8 ⟨rfl, rfl⟩))
          refine hU.out.mono ?_
          rintro e w3 ⟨rfl, hA3, hk3⟩
          have HE3 := Lib.hid (errOf_any hA3)
          have HA3 := Lib.hid hA3
          have HK3 : Hid (Kept (fun k => k = p ∨ k = B) w1 w3) := Lib.hid (HK.out.trans hk3 (fun _ _ e => .inr e))
          have HC3 : Hid (w3.heap[p]? = some (memRow dp jp file kv tv s.last dead)) := Lib.hid ((hk3.block p (Array.getElem?_eq_some_iff.1 HCC.out).1 (by have := HB.out; omega)).trans HCC.out)
          have HZ3 : Hid (OwnZ N w3 (.slice la sl lc) s.l) := Lib.hid (HZ.out.kept hk3 (fun g hg _ e => by have := HB.out; have : g = B := e; omega))
          clear hA3 hk3 hU
          obtain ⟨hT1, hsl⟩ : T = (s, q2) ∧ s.l.length = sl := ⟨HTE2.out, HL.out.1⟩
          have HFIN : Hid (O = ⟨s.l, s.last, s.right && q2.stop == 0⟩) := Lib.hid (by rw [HOT.out, hT1])
          have HST := Lib.hid (stop_any HA3.out)
          have HKF : Hid (Kept (· = p) w w3) := Lib.hid ⟨HK3.out.os.trans HK1.out.os, HK3.out.tape.trans HK1.out.tape, HK3.out.output.trans HK1.out.output, Nat.le_trans HK1.out.size HK3.out.size, fun i hi hne => (HK3.out.block i (Nat.lt_of_lt_of_le hi HK1.out.size) (by have := HB.out; omega)).trans (HK1.out.block i hi (fun f => f))⟩
          have HZF : Hid (OwnZ w.heap.size w3 (.slice la sl lc) s.l) := Lib.hid (OwnZ.mono HZ3.out (by have := HB.out; have := HK1.out.size; omega))
          clear hT1 hsl
          cases hsr : s.right with
          | false =>
            rw [hsr, Bool.false_and] at HFIN
            clear hsr
            go_wp2_with (first | (go_at_call 86; refine HE3.out.mono ?_; rintro e w8 ⟨rfl, rfl⟩))
            go_ret2
            rw [HFIN.out]
            exact ⟨_, rfl, HZF.out, HC3.out, HKF.out⟩
          | true =>
            rw [hsr, Bool.true_and] at HFIN
            clear hsr
            go_wp2_with (first | (go_at_call 86; refine HE3.out.mono ?_; rintro e w8 ⟨rfl, rfl⟩) | (go_at_call 93; refine HST.out.mono ?_; rintro e w9 ⟨rfl, rfl⟩))
            go_ret2
            rw [HFIN.out]
            exact ⟨_, rfl, HZF.out, HC3.out, HKF.out⟩
      · have heb : (q.err == 0) = false := by simp [he]
        have HTE2 : Hid (T = (s, q)) := Lib.hid (by rw [HTE.out, recGo_err _ _ _ _ he])
        clear he
        obtain ⟨hT1, hsl⟩ : T = (s, q) ∧ s.l.length = sl := ⟨HTE2.out, HL.out.1⟩
        have HFIN : Hid (O = ⟨s.l, s.last, s.right && q.stop == 0⟩) := Lib.hid (by rw [HOT.out, hT1])
        have HST := Lib.hid (stop_any HA.out)
        have HKF : Hid (Kept (· = p) w wr) := Lib.hid ⟨HK.out.os.trans HK1.out.os, HK.out.tape.trans HK1.out.tape, HK.out.output.trans HK1.out.output, Nat.le_trans HK1.out.size HK.out.size, fun i hi hne => (HK.out.block i (Nat.lt_of_lt_of_le hi HK1.out.size) (by have := HB.out; omega)).trans (HK1.out.block i hi (fun f => f))⟩
        have HZF : Hid (OwnZ w.heap.size wr (.slice la sl lc) s.l) := Lib.hid (OwnZ.mono HZ.out (by have := HB.out; have := HK1.out.size; omega))
        clear hT1 hsl
        cases hsr : s.right with
        | false =>
          rw [hsr, Bool.false_and] at HFIN
          clear hsr
          go_wp2_with (first | (go_at_call 86; refine HE.out.mono ?_; rintro e w8 ⟨rfl, rfl⟩))
          go_ret2
          rw [HFIN.out]
          exact ⟨_, rfl, HZF.out, HCC.out, HKF.out⟩
        | true =>
          rw [hsr, Bool.true_and] at HFIN
          clear hsr
          go_wp2_with (first | (go_at_call 86; refine HE.out.mono ?_; rintro e w8 ⟨rfl, rfl⟩) | (go_at_call 93; refine HST.out.mono ?_; rintro e w9 ⟨rfl, rfl⟩))
          go_ret2
          rw [HFIN.out]
          exact ⟨_, rfl, HZF.out, HCC.out, HKF.out⟩
end Go.Proofs.YtemilbemdlpkaaaGreatDoor
