/- espalierlaw11: born. -/
import Derived.Test.YtikacgiccllolaaGreatBornB
import Derived.Test.YtikacgiccllolaaGreatStoreD
import Derived.Deep.CutBlock
import Derived.Lib.MinMax
import Derived.IntWalk
set_option linter.unusedSimpArgs false
namespace Go.Proofs.YtikacgiccllolaaGreat
open Go.RowKit Go.ChangeMaps Go.MapKept

def bornE (w' : World) (n0 : Nat) (e : Ending) : Option HSt → Prop
  | none => e = .returned (.tuple #[.pointer none, .bool true])
  | some st => ∃ Hb s F m nv iv bv S, e = .returned (.tuple #[.pointer (some ⟨Hb, 0, none⟩), .bool false]) ∧ BuildAt w' n0 Hb s F st m nv iv bv S ∧ HOk st
theorem put_empty0 : putO [] .empty = (zId, 0, [.empty]) := by simp [putO, findO, empty_id]
theorem room0 : Room ⟨[], 0, 0, false⟩ ⟨objF, [], 0, false⟩ 0 := ⟨rfl, rfl, by decide, by simp, by simp [DM.bytes, getA], by simp, by simp [JM.all], by simp⟩
theorem putO_err (os : List OM) (o : OM) : (putO os o).2.1 = 0 ∨ (putO os o).2.1 = 7 := by
  unfold putO
  split
  · split
    · exact .inl rfl
    · exact .inr rfl
  · exact .inl rfl
def psI (ids : List Nat) (back : List Int) : List Nat := if ids = [] then [] else (back.take 7).map (pickI ids)
theorem psI_zero (ids : List Nat) (back : List Int) : psI ids (back.take 0) = [] := by unfold psI; split <;> simp
theorem psI_nil (back : List Int) : psI [] back = [] := by simp [psI]
theorem psI_same {ids : List Nat} {back : List Int} {q : Nat} (h : 7 ≤ q) : psI ids (back.take (q + 1)) = psI ids (back.take q) := by
  unfold psI
  rw [List.take_take, List.take_take, Nat.min_eq_left (by omega), Nat.min_eq_left (by omega)]
theorem psI_step {ids : List Nat} {back : List Int} {q : Nat} (hne : ids ≠ []) (h : q < 7) (hq : q < back.length) {x : Int} (hx : back[q] = x) : psI ids (back.take (q + 1)) = psI ids (back.take q) ++ [pickI ids x] := by
  unfold psI
  rw [if_neg hne, if_neg hne, List.take_take, List.take_take, Nat.min_eq_right (by omega), Nat.min_eq_right (by omega), List.take_succ_eq_append_getElem hq, List.map_append, hx]
  rfl
def EncOK (w : World) (v : Value) (o : OM) : Prop := ∀ W, Kept (fun _ => False) w W → Calls Tryz.prog 42 #[v] W fun e w' => ∃ u, e = .returned (.tuple #[u, .int .i64 0]) ∧ FreshB W u o.enc w'
theorem ComAt.put0 {w : World} {C tree : Nat} {v : Value} {date : Int} (h : ComAt w C tree v date) (t : Nat) : ComAt (w.setCell ⟨C, 0, none⟩ (.int .u64 t)) C t v date := by unfold ComAt; rw [heap_setCell_row h _]; rfl
set_option maxRecDepth 100000 in
set_option maxHeartbeats 4000000 in
theorem born_any (w : World) (a : Option Addr) (n c : Nat) (l : List BornM) (h : IsBn w (.slice a n c) l) :
    Calls Tryz.prog 6 #[.slice a n c] w fun e w' => bornE w' w.heap.size e (bornF l) ∧ Kept (fun _ => False) w w' := by
  obtain ⟨R, hR⟩ : ∃ R, bornF l = R := ⟨_, rfl⟩
  rw [hR]
  have HR : Hid (bornsF st0 ((l.take 24).drop 0) = R) := Lib.hid hR
  obtain ⟨hn1, hn2, hn3, hfit⟩ := h.len
  have HN1 := Lib.hid hn1
  have HFIT := Lib.hid hfit
  have HI := Lib.hid h
  have HD := Lib.hid (new_any w)
  clear hR hn1 hfit h
  go_enter Tryz.func6, Tryz.ntmps6
  go_wp2_with fail
  refine HD.out.mono ?_
  rintro e w1 ⟨b, m, rfl, hb, hm, hd, hk1⟩
  have HO := Lib.hid (sopen_any hd rfl)
  have HK1 := Lib.hid hk1
  have HBM : Hid (w.heap.size ≤ b ∧ w.heap.size ≤ m) := Lib.hid ⟨hb, hm⟩
  clear hd hk1 hb hm
  go_wp2_with fail
  refine HO.out.mono ?_
  rintro e w2 ⟨s, F, rfl, hst, hF, hk2⟩
  have HF : Hid (∀ k, F k → w.heap.size ≤ k) := Lib.hid (fun k hk => by
    rcases hF k hk with h9 | h9
    · rcases h9 with rfl | rfl | ⟨e, he, -⟩
      · exact HBM.out.1
      · exact HBM.out.2
      · simp at he
    · have := HK1.out.size; omega)
  have HK2 : Hid (Kept (fun _ => False) w w2) := Lib.hid (HK1.out.more hk2 (fun _ f => f.elim))
  have HT := Lib.hid (tempty_any (s := s) (F := F) (os := []) (m := 0) ⟨_, _, hst, rfl, by simp, room0, Nat.le_refl _⟩ (by omega))
  rw [put_empty0] at HT
  clear hst hF hk2 HO
  obtain ⟨z, hz⟩ : ∃ z, zId = z := ⟨_, rfl⟩
  have HZ := Lib.hid hz
  rw [hz] at HT
  clear hz
  go_wp2_with fail
  refine HT.out.mono ?_
  rintro e w3 ⟨rfl, F3, hob3, hF3, hk3⟩
  have HF3 : Hid (∀ k, F3 k → w.heap.size ≤ k) := Lib.hid (fun k hk => by
    rcases hF3 k hk with h9 | h9
    · exact HF.out k h9
    · have := HK2.out.size; omega)
  have HK3 : Hid (Kept (fun _ => False) w w3) := Lib.hid (HK2.out.more hk3 (fun i e => HF.out i e))
  obtain ⟨w4, hw4⟩ : ∃ W, w3.alloc (.cells #[.pointer (some ⟨s, 0, none⟩), .slice none 0 0, .slice none 0 0, .slice none 0 0, .int .u64 z] 39) = W := ⟨_, rfl⟩
  have hk4 : Kept (fun _ => False) w3 w4 := by rw [← hw4]; exact (Kept.refl _ _).alloc _
  have hb4 : w4.heap[w3.heap.size]? = some (.cells #[.pointer (some ⟨s, 0, none⟩), .slice none 0 0, .slice none 0 0, .slice none 0 0, .int .u64 z] 39 (0, 0)) := by rw [← hw4]; exact heap_alloc_new _ _
  have HB4 : Hid (BuildAt w4 w.heap.size w3.heap.size s F3 st0 1 (.slice none 0 0) (.slice none 0 0) (.slice none 0 0) []) := Lib.hid
    ⟨hob3.keptN hk4, by rw [HZ.out]; exact hb4, World.ownsRow_nil _ _ _ _, rfl, by simp, OwnI.none _ _, World.ownsRow_nil _ _ _ _, HK3.out.size, fun k hk => ⟨fun e => by have := hob3.lt k hk; omega, by simp [Value.ownBlock], by simp [Value.ownBlock], by simp [Value.ownBlock]⟩⟩
  have HK4 : Hid (Kept (fun _ => False) w w4) := Lib.hid (HK3.out.more hk4 (fun _ f => f.elim))
  obtain ⟨Hb, hHb⟩ : ∃ Hb, w3.heap.size = Hb := ⟨_, rfl⟩
  rw [hHb] at HB4
  clear hob3 hF3 hk3 hk4 hb4 HT
  go_wp2_with fail
  clear hw4 hHb
  go_loopg [2, 35] n (fun g u2 i wr => u2 = .pointer (some ⟨Hb, 0, none⟩) ∧ ∃ k st m nv iv bv S F, k ≤ n ∧ k ≤ 24 ∧ k + g = n ∧ i = .int .i64 k ∧ Hid (BuildAt wr w.heap.size Hb s F st m nv iv bv S) ∧ Hid (HOk st ∧ st.ids.length = k ∧ m = k + 1 ∧ ∀ k, F k → w.heap.size ≤ k) ∧ Hid (bornsF st ((l.take 24).drop k) = R) ∧ Hid (Kept (fun _ => False) w wr))
  case atStart => exact ⟨rfl, 0, st0, 1, _, _, _, _, F3, Nat.zero_le _, by omega, by omega, rfl, HB4, Lib.hid ⟨st0_ok, rfl, rfl, HF3.out⟩, HR, HK4⟩
  case round =>
    clear HB4 HR HK4 HF3
    obtain ⟨rfl, k, st, m, nv, iv, bv, S, F, hkn, hk24, hkg, rfl, HB, HH, HR, HK⟩ := hrel
    obtain ⟨G, hG⟩ : ∃ G, G = gk := ⟨_, rfl⟩
    subst hG
    obtain ⟨wo, hwo⟩ : ∃ wo, wo = wr := ⟨_, rfl⟩
    subst hwo
    by_cases hlt : k < n
    · by_cases h24 : k = 24
      · have hb24 : ((k : Int) == 24) = true := by simp [h24]
        have hkl : k < l.length := by have := HN1.out; omega
        obtain ⟨g, off, rfl, hg, ba, bc, hz0, q0, q1, q2, q3, q4⟩ := (HI.out.keptN HK.out).at hkl
        have HRS : R = some st := by
          have h1 := HR.out
          rw [List.drop_of_length_le (by rw [List.length_take]; have := HN1.out; omega)] at h1
          exact h1.symm
        subst HRS
        obtain ⟨bl, hbl⟩ : ∃ bl, l[k].back.length = bl := ⟨_, rfl⟩
        rw [hbl] at q0
        obtain ⟨w5, hw5⟩ : ∃ W, wo.alloc (.cells #[.slice ba bl bc, .int .i64 l[k].date, .bool l[k].blob, .bool l[k].lost, .bool l[k].bare] 52) = W := ⟨_, rfl⟩
        have hk5 : Kept (fun _ => False) wo w5 := by rw [← hw5]; exact (Kept.refl _ _).alloc _
        have HW := Lib.hid hw5
        have HFN : Hid (bornE w5 w.heap.size (.returned (.tuple #[.pointer (some ⟨Hb, 0, none⟩), .bool false])) (some st) ∧ Kept (fun _ => False) w w5) := Lib.hid ⟨⟨Hb, s, F, m, nv, iv, bv, S, rfl, HB.out.keptN hk5, HH.out.1⟩, HK.out.more hk5 (fun _ f => f.elim)⟩
        clear hz0 hbl hg h24 hk5 hw5
        go_wp2_with fail
        rw [HW.out]
        go_ret2
        exact HFN.out
      · have hb24 : ((k : Int) == 24) = false := by simp; omega
        have hkl : k < l.length := by have := HN1.out; omega
        obtain ⟨g, off, rfl, hg, ba, bc, hz0, q0, q1, q2, q3, q4⟩ := (HI.out.keptN HK.out).at hkl
        obtain ⟨b, hbq⟩ : ∃ b, l[k] = b := ⟨_, rfl⟩
        rw [hbq] at hz0 q0 q1 q2 q3 q4
        obtain ⟨bl, hbl⟩ : ∃ bl, b.back.length = bl := ⟨_, rfl⟩
        rw [hbl] at hz0 q0
        obtain ⟨w5, hw5⟩ : ∃ W, wo.alloc (.cells #[.slice ba bl bc, .int .i64 b.date, .bool b.blob, .bool b.lost, .bool b.bare] 52) = W := ⟨_, rfl⟩
        have hb5 : w5.heap[wo.heap.size]? = some (.cells #[.slice ba bl bc, .int .i64 b.date, .bool b.blob, .bool b.lost, .bool b.bare] 52 (0, 0)) := by rw [← hw5]; exact heap_alloc_new _ _
        have hs5 : w5.heap.size = wo.heap.size + 1 := by rw [← hw5]; simp
        have hk5 : Kept (fun _ => False) wo w5 := by rw [← hw5]; exact (Kept.refl _ _).alloc _
        have r0 : w5.cell? ⟨wo.heap.size, 0, none⟩ = some (.slice ba bl bc) := by simp [World.cell?, hb5]
        have r1 : w5.cell? ⟨wo.heap.size, 1, none⟩ = some (.int .i64 b.date) := by simp [World.cell?, hb5]
        have r4 : w5.cell? ⟨wo.heap.size, 4, none⟩ = some (.bool b.bare) := by simp [World.cell?, hb5]
        obtain ⟨w6, hw6⟩ : ∃ W, w5.alloc (.cells #[.int .u64 z, .slice none 0 0, .string { data := #[] }, .int .i64 b.date, .string { data := #[] }] 61) = W := ⟨_, rfl⟩
        have hC6 : ComAt w6 (wo.heap.size + 1) z (.slice none 0 0) b.date := by unfold ComAt; rw [← hw6, ← hs5]; exact heap_alloc_new _ _
        have hk6 : Kept (fun _ => False) w5 w6 := by rw [← hw6]; exact (Kept.refl _ _).alloc _
        have hk56 := hk5.more hk6 (fun _ f => f.elim)
        have HBb : Hid (w6.heap[wo.heap.size]? = some (.cells #[.slice ba bl bc, .int .i64 b.date, .bool b.blob, .bool b.lost, .bool b.bare] 52 (0, 0))) := Lib.hid ((hk6.block _ (by omega) (fun f => f)).trans hb5)
        have s4 : w6.cell? ⟨wo.heap.size, 4, none⟩ = some (.bool b.bare) := hk6.cell r4 (fun f => f)
        have ⟨c0, _, _, _, _, cf⟩ := hC6.cells
        have cf0 := cf 0
        have HZ0 := Lib.hid hz0
        have HBQ := Lib.hid hbq
        have HBL := Lib.hid hbl
        have HC6 := Lib.hid hC6
        have HK56 := Lib.hid hk56
        obtain ⟨T, hT⟩ : ∃ T, (if b.bare then 12345 else z) = T := ⟨_, rfl⟩
        have HTT := Lib.hid hT
        clear hT
        clear hb5 hk5 hk6 hC6 cf hz0 hbq hbl hg hk56
        have HW6 := Lib.hid hw6
        clear hw6
        go_upto_if 47 with fail
        rw [HW6.out]
        clear hw5 HW6 r0 r1 r4 q0 q1 q2 q3 q4
        go_cut [] from 39 to 48 (fun wx => ComAt wx (wo.heap.size + 1) T (.slice none 0 0) b.date ∧ Kept (· = wo.heap.size + 1) w6 wx)
        case first =>
          cases hbare : b.bare with
          | true =>
            rw [hbare] at s4
            have HP : Hid (ComAt (w6.setCell ⟨wo.heap.size + 1, 0, none⟩ (.int .u64 12345)) (wo.heap.size + 1) T (.slice none 0 0) b.date ∧ Kept (· = wo.heap.size + 1) w6 (w6.setCell ⟨wo.heap.size + 1, 0, none⟩ (.int .u64 12345))) := Lib.hid (by
              have e : T = 12345 := by rw [← HTT.out, hbare]; rfl
              rw [e]
              exact ⟨HC6.out.put0 12345, keptCell w6 (wo.heap.size + 1) 0 (.int .u64 12345)⟩)
            clear hbare
            go_wp2_with fail
            go_meet
            case rel => exact HP.out
          | false =>
            rw [hbare] at s4
            have HP : Hid (ComAt w6 (wo.heap.size + 1) T (.slice none 0 0) b.date) := Lib.hid (by
              have e : T = z := by rw [← HTT.out, hbare]; rfl
              rw [e]
              exact HC6.out)
            clear hbare
            go_wp2_with fail
            go_meet
            case rel => exact ⟨HP.out, Kept.refl _ _⟩
        case rest =>
          obtain ⟨hcC, hcK⟩ := hcut
          have HK0 : Hid (Kept (fun k => wo.heap.size ≤ k) wo wc) := Lib.hid ((HK56.out.mono (fun _ _ f => f.elim)).trans hcK (fun i _ e => by omega))
          have HBc : Hid (wc.heap[wo.heap.size]? = some (.cells #[.slice ba bl bc, .int .i64 b.date, .bool b.blob, .bool b.lost, .bool b.bare] 52 (0, 0))) := Lib.hid ((hcK.block _ (Array.getElem?_eq_some_iff.1 HBb.out).1 (fun e => by omega)).trans HBb.out)
          have r0 : wc.cell? ⟨wo.heap.size, 0, none⟩ = some (.slice ba bl bc) := by have := HBc.out; simp [World.cell?, this]
          have HCc : Hid (ComAt wc (wo.heap.size + 1) T (.slice none 0 0) b.date ∧ OwnI wo.heap.size wc (.slice none 0 0) (psI st.ids (b.back.take 0))) := Lib.hid ⟨hcC, by rw [psI_zero]; exact OwnI.none _ _⟩
          have hbl63 : bl ≤ 9223372036854775807 := (HZ0.out.len).2.2
          clear hcC hcK HBb HC6 HK56
          go_wp2_with fail
          go_loopg [52] bl (fun g i wy => ∃ q cv, q + g = bl ∧ i = .int .i64 q ∧ Hid (ComAt wy (wo.heap.size + 1) T cv b.date ∧ OwnI wo.heap.size wy cv (psI st.ids (b.back.take q))) ∧ Hid (wy.heap[wo.heap.size]? = some (.cells #[.slice ba bl bc, .int .i64 b.date, .bool b.blob, .bool b.lost, .bool b.bare] 52 (0, 0))) ∧ Hid (Kept (fun k => wo.heap.size ≤ k) wo wy))
          case atStart => exact ⟨0, _, by omega, rfl, HCc, HBc, HK0⟩
          case round =>
            clear HCc HBc HK0 r0
            obtain ⟨q, cv, hqg, rfl, HC, HBb, HKy⟩ := hrel
            by_cases hql : q < bl
            · have hqb : q < b.back.length := by have := HBL.out; omega
              obtain ⟨zg, zo, rfl, hzg, hzc⟩ := HZ0.out.at hqb
              obtain ⟨x, hx⟩ : ∃ x, b.back[q] = x := ⟨_, rfl⟩
              rw [hx] at hzc
              have HX := Lib.hid hx
              have hzc' := HKy.out.cell hzc (fun e => by simp only at e; omega)
              have d0 : (0 : Int) ≤ (q : Int) := by omega
              have d1 : (q : Int) < (bl : Int) := by omega
              have HBy : Hid (BuildAt wr w.heap.size Hb s F st m nv iv bv S) := Lib.hid (HB.out.kept HKy.out (fun k e e2 => by have := HB.out.below k e; omega))
              obtain ⟨-, -, t2, -, -, -⟩ := HBy.out.c
              obtain ⟨ia, ic, rfl, hil, him⟩ := HBy.out.ids.form
              rw [HH.out.2.1] at t2
              clear hx hzg hzc
              by_cases hk0 : k = 0
              · have HPS : Hid (psI st.ids (b.back.take (q + 1)) = psI st.ids (b.back.take q)) := Lib.hid (by
                  have : st.ids = [] := List.length_eq_zero_iff.1 (HH.out.2.1.trans hk0)
                  rw [this, psI_nil, psI_nil])
                have hkb : decide ((0 : Int) < (k : Int)) = false := by simp; omega
                have hkn0 : ¬ (0 : Int) < (k : Int) := by omega
                clear hk0
                go_wp2_with fail
                go_roundg (gk - 1)
                case measure => omega
                case rel => exact ⟨q + 1, cv, by omega, by go_num, Lib.hid ⟨HC.out.1, by rw [HPS.out]; exact HC.out.2⟩, HBb, HKy⟩
              · by_cases hq7 : q < 7
                · have hkb : (0 : Int) < (k : Int) := by omega
                  have hq7i : (q : Int) < 7 := by omega
                  have hmod := Nat.mod_lt (max x 0).toNat (show 0 < k by omega)
                  obtain ⟨j, hj⟩ : ∃ j, k - 1 - (max x 0).toNat % k = j := ⟨_, rfl⟩
                  have hjk : j < st.ids.length := by have := HH.out.2.1; omega
                  have hids := HBy.out.ids
                  obtain ⟨ig, ic', he, hic⟩ := ownI_at hids hjk
                  cases he
                  have hpick : pickI st.ids x = st.ids[j] := by
                    unfold pickI
                    rw [HH.out.2.1, hj, List.getD_eq_getElem?_getD, List.getElem?_eq_getElem hjk]
                    rfl
                  obtain ⟨y, hy⟩ : ∃ y, st.ids[j] = y := ⟨_, rfl⟩
                  rw [hy] at hic hpick
                  have HPS : Hid (psI st.ids (b.back.take (q + 1)) = psI st.ids (b.back.take q) ++ [y]) := Lib.hid (by
                    rw [psI_step (fun e => by have := HH.out.2.1; rw [e] at this; simp at this; omega) hq7 hqb HX.out, hpick])
                  have hkd : Kept (fun _ => False) wr wr.drew := (Kept.refl _ _).drew
                  have hig := (hids.base (g := ig) rfl).2
                  go_wp2_with fail
                  have hm1 : IntKind.i64.wrap ((k : Int) - 1) = (k : Int) - 1 := IntWalk.i64_in _ (by omega)
                  obtain ⟨r, hr⟩ : ∃ r, (max x 0).toNat % k = r := ⟨_, rfl⟩
                  rw [hr] at hj hmod
                  have hrem : (max x 0).tmod (k : Int) = (r : Int) := by
                    rw [Int.tmod_eq_emod_of_nonneg (by omega), ← hr]
                    have : max x 0 = ((max x 0).toNat : Int) := by omega
                    rw [this]
                    simp
                  have hsub : IntKind.i64.wrap ((k : Int) - 1 - (r : Int)) = (j : Int) := by
                    rw [IntWalk.i64_in _ (by omega)]; omega
                  have e0 : (0 : Int) ≤ (j : Int) := by omega
                  have e1 : (j : Int) < (k : Int) := by have := HH.out.2.1; omega
                  have hpl : (psI st.ids (b.back.take q)).length ≤ 1000 := by
                    unfold psI; split
                    · simp
                    · rw [List.length_map, List.length_take]; omega
                  obtain ⟨v', w7, hrun, p1, p2, p3, p4, p5, p7, p6⟩ := par_step (W := wr.drew) (HC.out.1.kept hkd (fun f => f)) (HC.out.2.keptF hkd (fun _ _ f => f)) (Nat.le_add_right _ 1) y hpl
                  obtain ⟨va, vc, rfl, -, -⟩ := p4.form
                  obtain ⟨vn, hvn⟩ : ∃ vn, (psI st.ids (b.back.take q) ++ [y]).length = vn := ⟨_, rfl⟩
                  rw [hvn] at hrun p3 p4 p5 p7
                  clear hvn
                  have hkA : Kept (fun _ => False) wr.drew (wr.drew.alloc (.cells #[.int .u64 y] 37)) := (Kept.refl _ _).alloc _
                  have hHb := HB.out.lt
                  have HPE : Hid (ComAt (w7.setCell ⟨wo.heap.size + 1, 1, none⟩ (.slice va vn vc)) (wo.heap.size + 1) T (.slice va vn vc) b.date ∧ OwnI wo.heap.size (w7.setCell ⟨wo.heap.size + 1, 1, none⟩ (.slice va vn vc)) (.slice va vn vc) (psI st.ids (b.back.take (q + 1)))) := Lib.hid ⟨p3, by rw [HPS.out]; exact p4⟩
                  have HKE : Hid (Kept (fun k => wo.heap.size ≤ k) wr (w7.setCell ⟨wo.heap.size + 1, 1, none⟩ (.slice va vn vc))) := Lib.hid ((hkd.mono (fun _ _ f => f.elim)).trans p5 (fun _ _ e => e))
                  have hco : ∀ g, cv.ownBlock = some g → wo.heap.size ≤ g := fun g e => (HC.out.2.base e).1
                  have hib : ig < wo.heap.size := (HB.out.ids.base (g := ig) rfl).2
                  have HBE : Hid ((w7.setCell ⟨wo.heap.size + 1, 1, none⟩ (.slice va vn vc)).heap[wo.heap.size]? = some (.cells #[.slice (some ⟨zg, zo, none⟩) bl bc, .int .i64 b.date, .bool b.blob, .bool b.lost, .bool b.bare] 52 (0, 0))) := Lib.hid ((p7.block _ (Array.getElem?_eq_some_iff.1 HBb.out).1 (fun e => by
                    rcases e with e | e
                    · omega
                    · obtain ⟨cur, h9⟩ := HC.out.2.blockT e
                      rw [HBb.out] at h9
                      simp at h9)).trans HBb.out)
                  clear hr hj p3 p4 p7
                  have c1 : wr.cell? ⟨wo.heap.size + 1, 1, none⟩ = some cv := HC.out.1.cells.2.1
                  have HS : wr.drew.cell? ⟨wo.heap.size + 1, 1, none⟩ = some cv ∧ wr.drew.cell? ⟨Hb, 2, none⟩ = some (.slice (some ⟨ig, 0, none⟩) k ic) ∧ wr.drew.cell? ⟨ig, j, none⟩ = some (.int .u64 y) := ⟨c1, t2, hic⟩
                  refine wp_region_phase (fun w' => w'.cell? ⟨wo.heap.size + 1, 1, none⟩ = some cv ∧ w'.cell? ⟨Hb, 2, none⟩ = some (.slice (some ⟨ig, 0, none⟩) k ic) ∧ w'.cell? ⟨ig, j, none⟩ = some (.int .u64 y)) (fun i => i == 26) (by kernel_rfl) HS (fun _ => ?_)
                  refine wpAnyG_take (i := 0) (v := ?_) rfl (by kernel_rfl) (by kernel_rfl) (by kernel_rfl) (by kernel_rfl) (fun _ _ _ h => h) (Or.inl ⟨by rfl, ?_⟩) HS ?_
                  rotate_left
                  (intro w' hSw'; have ⟨_, _, _⟩ := hSw'; go_simp; try with_reducible rfl)
                  try simp only [Act.put, List.setIfInBounds_toArray, List.set_cons_zero, List.set_cons_succ, List.getElem_toArray, List.getElem_cons_zero, List.getElem_cons_succ]
                  refine wpAnyG_take (i := 1) (v := ?_) rfl (by kernel_rfl) (by kernel_rfl) (by kernel_rfl) (by kernel_rfl) (fun _ _ _ h => h) (Or.inl ⟨by rfl, ?_⟩) HS ?_
                  rotate_left
                  (intro w' hSw'; have ⟨_, _, _⟩ := hSw'; go_simp; try with_reducible rfl)
                  try simp only [Act.put, List.setIfInBounds_toArray, List.set_cons_zero, List.set_cons_succ, List.getElem_toArray, List.getElem_cons_zero, List.getElem_cons_succ]
                  refine wpAnyG_take (i := 2) (v := ?_) rfl (by kernel_rfl) (by kernel_rfl) (by kernel_rfl) (by kernel_rfl) (fun _ _ _ h => h) (Or.inl ⟨by rfl, ?_⟩) HS ?_
                  rotate_left
                  (intro w' hSw'; have ⟨_, _, _⟩ := hSw'; go_simp; try with_reducible rfl)
                  try simp only [Act.put, List.setIfInBounds_toArray, List.set_cons_zero, List.set_cons_succ, List.getElem_toArray, List.getElem_cons_zero, List.getElem_cons_succ]
                  refine wpAnyG_take (i := 3) (v := ?_) rfl (by kernel_rfl) (by kernel_rfl) (by kernel_rfl) (by kernel_rfl) (fun _ _ _ h => h) (Or.inl ⟨by rfl, ?_⟩) HS ?_
                  rotate_left
                  (intro w' hSw'; have ⟨_, _, _⟩ := hSw'; go_simp; try with_reducible rfl)
                  try simp only [Act.put, List.setIfInBounds_toArray, List.set_cons_zero, List.set_cons_succ, List.getElem_toArray, List.getElem_cons_zero, List.getElem_cons_succ]
                  refine wpAnyG_take (i := 4) (v := ?_) rfl (by kernel_rfl) (by kernel_rfl) (by kernel_rfl) (by kernel_rfl) (fun _ _ _ h => h) (Or.inl ⟨by rfl, ?_⟩) HS ?_
                  rotate_left
                  (intro w' hSw'; have ⟨_, _, _⟩ := hSw'; go_simp; try with_reducible rfl)
                  try simp only [Act.put, List.setIfInBounds_toArray, List.set_cons_zero, List.set_cons_succ, List.getElem_toArray, List.getElem_cons_zero, List.getElem_cons_succ]
                  refine wpAnyG_take (i := 5) (v := ?_) rfl (by kernel_rfl) (by kernel_rfl) (by kernel_rfl) (by kernel_rfl) (fun _ _ _ h => h) (Or.inl ⟨by rfl, ?_⟩) HS ?_
                  rotate_left
                  (intro w' hSw'; have ⟨_, _, _⟩ := hSw'; go_simp; try with_reducible rfl)
                  try simp only [Act.put, List.setIfInBounds_toArray, List.set_cons_zero, List.set_cons_succ, List.getElem_toArray, List.getElem_cons_zero, List.getElem_cons_succ]
                  refine wpAnyG_take (i := 6) (v := ?_) rfl (by kernel_rfl) (by kernel_rfl) (by kernel_rfl) (by kernel_rfl) (fun _ _ _ h => h) (Or.inl ⟨by rfl, ?_⟩) HS ?_
                  rotate_left
                  (intro w' hSw'; have ⟨_, _, _⟩ := hSw'; go_simp; try with_reducible rfl)
                  try simp only [Act.put, List.setIfInBounds_toArray, List.set_cons_zero, List.set_cons_succ, List.getElem_toArray, List.getElem_cons_zero, List.getElem_cons_succ]
                  refine wpAnyG_take (i := 7) (v := ?_) rfl (by kernel_rfl) (by kernel_rfl) (by kernel_rfl) (by kernel_rfl) (fun _ _ _ h => h) (Or.inl ⟨by rfl, ?_⟩) HS ?_
                  rotate_left
                  (intro w' hSw'; have ⟨_, _, _⟩ := hSw'; go_simp; try with_reducible rfl)
                  try simp only [Act.put, List.setIfInBounds_toArray, List.set_cons_zero, List.set_cons_succ, List.getElem_toArray, List.getElem_cons_zero, List.getElem_cons_succ]
                  refine wpAnyG_take (i := 8) (v := ?_) rfl (by kernel_rfl) (by kernel_rfl) (by kernel_rfl) (by kernel_rfl) (fun _ _ _ h => h) (Or.inl ⟨by rfl, ?_⟩) HS ?_
                  rotate_left
                  (intro w' hSw'; have ⟨_, _, _⟩ := hSw'; go_simp; try with_reducible rfl)
                  try simp only [Act.put, List.setIfInBounds_toArray, List.set_cons_zero, List.set_cons_succ, List.getElem_toArray, List.getElem_cons_zero, List.getElem_cons_succ]
                  refine wpAnyG_take (i := 9) (v := ?_) rfl (by kernel_rfl) (by kernel_rfl) (by kernel_rfl) (by kernel_rfl) (fun _ _ _ h => h) (Or.inl ⟨by rfl, ?_⟩) HS ?_
                  rotate_left
                  (intro w' hSw'; have ⟨_, _, _⟩ := hSw'; go_simp; try with_reducible rfl)
                  try simp only [Act.put, List.setIfInBounds_toArray, List.set_cons_zero, List.set_cons_succ, List.getElem_toArray, List.getElem_cons_zero, List.getElem_cons_succ]
                  refine wpAnyG_take (i := 10) (v := ?_) rfl (by kernel_rfl) (by kernel_rfl) (by kernel_rfl) (by kernel_rfl) (fun _ _ _ h => h) (Or.inl ⟨by rfl, ?_⟩) HS ?_
                  rotate_left
                  (intro w' hSw'; have ⟨_, _, _⟩ := hSw'; go_simp; try with_reducible rfl)
                  try simp only [Act.put, List.setIfInBounds_toArray, List.set_cons_zero, List.set_cons_succ, List.getElem_toArray, List.getElem_cons_zero, List.getElem_cons_succ]
                  refine wpAnyG_take (i := 11) (v := ?_) rfl (by kernel_rfl) (by kernel_rfl) (by kernel_rfl) (by kernel_rfl) (fun _ _ _ h => h) (Or.inl ⟨by rfl, ?_⟩) HS ?_
                  rotate_left
                  (intro w' hSw'; have ⟨_, _, _⟩ := hSw'; go_simp; try with_reducible rfl)
                  try simp only [Act.put, List.setIfInBounds_toArray, List.set_cons_zero, List.set_cons_succ, List.getElem_toArray, List.getElem_cons_zero, List.getElem_cons_succ]
                  refine wpAnyG_take (i := 12) (v := ?_) rfl (by kernel_rfl) (by kernel_rfl) (by kernel_rfl) (by kernel_rfl) (fun _ _ _ h => h) (Or.inl ⟨by rfl, ?_⟩) HS ?_
                  rotate_left
                  (intro w' hSw'; have ⟨_, _, _⟩ := hSw'; go_simp; try with_reducible rfl)
                  try simp only [Act.put, List.setIfInBounds_toArray, List.set_cons_zero, List.set_cons_succ, List.getElem_toArray, List.getElem_cons_zero, List.getElem_cons_succ]
                  refine wpAnyG_take (i := 13) (v := ?_) rfl (by kernel_rfl) (by kernel_rfl) (by kernel_rfl) (by kernel_rfl) (fun _ _ _ h => h) (Or.inl ⟨by rfl, ?_⟩) HS ?_
                  rotate_left
                  (intro w' hSw'; have ⟨_, _, _⟩ := hSw'; go_simp; try with_reducible rfl)
                  try simp only [Act.put, List.setIfInBounds_toArray, List.set_cons_zero, List.set_cons_succ, List.getElem_toArray, List.getElem_cons_zero, List.getElem_cons_succ]
                  refine wpAnyG_take (i := 14) (v := ?_) rfl (by kernel_rfl) (by kernel_rfl) (by kernel_rfl) (by kernel_rfl) (fun _ _ _ h => h) (Or.inl ⟨by rfl, ?_⟩) HS ?_
                  rotate_left
                  (intro w' hSw'; have ⟨_, _, _⟩ := hSw'; go_simp; try with_reducible rfl)
                  try simp only [Act.put, List.setIfInBounds_toArray, List.set_cons_zero, List.set_cons_succ, List.getElem_toArray, List.getElem_cons_zero, List.getElem_cons_succ]
                  refine wpAnyG_take (i := 15) (v := ?_) rfl (by kernel_rfl) (by kernel_rfl) (by kernel_rfl) (by kernel_rfl) (fun _ _ _ h => h) (Or.inl ⟨by rfl, ?_⟩) HS ?_
                  rotate_left
                  (intro w' hSw'; have ⟨_, _, _⟩ := hSw'; go_simp; try with_reducible rfl)
                  try simp only [Act.put, List.setIfInBounds_toArray, List.set_cons_zero, List.set_cons_succ, List.getElem_toArray, List.getElem_cons_zero, List.getElem_cons_succ]
                  refine wpAnyG_take (i := 16) (v := ?_) rfl (by kernel_rfl) (by kernel_rfl) (by kernel_rfl) (by kernel_rfl) (fun _ _ _ h => h) (Or.inl ⟨by rfl, ?_⟩) HS ?_
                  rotate_left
                  (intro w' hSw'; have ⟨_, _, _⟩ := hSw'; go_simp; try with_reducible rfl)
                  try simp only [Act.put, List.setIfInBounds_toArray, List.set_cons_zero, List.set_cons_succ, List.getElem_toArray, List.getElem_cons_zero, List.getElem_cons_succ]
                  refine wpAnyG_take (i := 17) (v := ?_) rfl (by kernel_rfl) (by kernel_rfl) (by kernel_rfl) (by kernel_rfl) (fun _ _ _ h => h) (Or.inl ⟨by rfl, ?_⟩) HS ?_
                  rotate_left
                  (intro w' hSw'; have ⟨_, _, _⟩ := hSw'; go_simp; try with_reducible rfl)
                  try simp only [Act.put, List.setIfInBounds_toArray, List.set_cons_zero, List.set_cons_succ, List.getElem_toArray, List.getElem_cons_zero, List.getElem_cons_succ]
                  refine wpAnyG_take (i := 18) (v := ?_) rfl (by kernel_rfl) (by kernel_rfl) (by kernel_rfl) (by kernel_rfl) (fun _ _ _ h => h) (Or.inl ⟨by rfl, ?_⟩) HS ?_
                  rotate_left
                  (intro w' hSw'; have ⟨_, _, _⟩ := hSw'; go_simp; try with_reducible rfl)
                  try simp only [Act.put, List.setIfInBounds_toArray, List.set_cons_zero, List.set_cons_succ, List.getElem_toArray, List.getElem_cons_zero, List.getElem_cons_succ]
                  refine wpAnyG_take (i := 19) (v := ?_) rfl (by kernel_rfl) (by kernel_rfl) (by kernel_rfl) (by kernel_rfl) (fun _ _ _ h => h) (Or.inl ⟨by rfl, ?_⟩) HS ?_
                  rotate_left
                  (intro w' hSw'; have ⟨_, _, _⟩ := hSw'; go_simp; try with_reducible rfl)
                  try simp only [Act.put, List.setIfInBounds_toArray, List.set_cons_zero, List.set_cons_succ, List.getElem_toArray, List.getElem_cons_zero, List.getElem_cons_succ]
                  refine wpAnyG_take (i := 20) (v := ?_) rfl (by kernel_rfl) (by kernel_rfl) (by kernel_rfl) (by kernel_rfl) (fun _ _ _ h => h) (Or.inl ⟨by rfl, ?_⟩) HS ?_
                  rotate_left
                  (intro w' hSw'; have ⟨_, _, _⟩ := hSw'; go_simp; try with_reducible rfl)
                  try simp only [Act.put, List.setIfInBounds_toArray, List.set_cons_zero, List.set_cons_succ, List.getElem_toArray, List.getElem_cons_zero, List.getElem_cons_succ]
                  refine wpAnyG_take (i := 21) (v := ?_) rfl (by kernel_rfl) (by kernel_rfl) (by kernel_rfl) (by kernel_rfl) (fun _ _ _ h => h) (Or.inl ⟨by rfl, ?_⟩) HS ?_
                  rotate_left
                  (intro w' hSw'; have ⟨_, _, _⟩ := hSw'; go_simp; try with_reducible rfl)
                  try simp only [Act.put, List.setIfInBounds_toArray, List.set_cons_zero, List.set_cons_succ, List.getElem_toArray, List.getElem_cons_zero, List.getElem_cons_succ]
                  refine wpAnyG_take (i := 22) (v := ?_) rfl (by kernel_rfl) (by kernel_rfl) (by kernel_rfl) (by kernel_rfl) (fun _ _ _ h => h) (Or.inl ⟨by rfl, ?_⟩) HS ?_
                  rotate_left
                  (intro w' hSw'; have ⟨_, _, _⟩ := hSw'; go_simp; try with_reducible rfl)
                  try simp only [Act.put, List.setIfInBounds_toArray, List.set_cons_zero, List.set_cons_succ, List.getElem_toArray, List.getElem_cons_zero, List.getElem_cons_succ]
                  have HSA : (wr.drew.alloc (.cells #[.int .u64 y] 37)).cell? ⟨wo.heap.size + 1, 1, none⟩ = some cv ∧ (wr.drew.alloc (.cells #[.int .u64 y] 37)).cell? ⟨Hb, 2, none⟩ = some (.slice (some ⟨ig, 0, none⟩) k ic) ∧ (wr.drew.alloc (.cells #[.int .u64 y] 37)).cell? ⟨ig, j, none⟩ = some (.int .u64 y) := ⟨hkA.cell HS.1 (fun f => f), hkA.cell HS.2.1 (fun f => f), hkA.cell HS.2.2 (fun f => f)⟩
                  have HS7 : w7.cell? ⟨wo.heap.size + 1, 1, none⟩ = some cv ∧ w7.cell? ⟨Hb, 2, none⟩ = some (.slice (some ⟨ig, 0, none⟩) k ic) ∧ w7.cell? ⟨ig, j, none⟩ = some (.int .u64 y) := ⟨p1, p6.cell HS.2.1 (fun e => by have := hco _ e; simp only at this; omega), p6.cell HS.2.2 (fun e => by have := hco _ e; simp only at this; omega)⟩
                  refine wpAnyG_ready (rs := [23]) (by kernel_rfl) (by simp) ?_
                  refine AllG.cons rfl (ph' := false) (by kernel_rfl) (fun K hK => ?_) AllG.nil
                  go_simp
                  refine hK.out _ _ (fun _ => HSA) ?_
                  clear hK K
                  try simp only [Act.put, List.setIfInBounds_toArray, List.set_cons_zero, List.set_cons_succ, List.getElem_toArray, List.getElem_cons_zero, List.getElem_cons_succ]
                  refine wpAnyG_ready (rs := [24]) (by kernel_rfl) (by simp) ?_
                  refine AllG.cons rfl (ph' := false) (by kernel_rfl) (fun K hK => ?_) AllG.nil
                  refine step_append_run rfl (.tmp 68) (.tmp 90) #[28, 28] rfl _ _ _ _ rfl rfl hrun ?_
                  refine hK.out _ _ (fun _ => HS7) ?_
                  clear hK K
                  try simp only [Act.put, List.setIfInBounds_toArray, List.set_cons_zero, List.set_cons_succ, List.getElem_toArray, List.getElem_cons_zero, List.getElem_cons_succ]
                  refine wpAnyG_take (i := 25) (v := ?_) rfl (by kernel_rfl) (by kernel_rfl) (by kernel_rfl) (by kernel_rfl) (fun _ _ _ h => h) (Or.inl ⟨by rfl, ?_⟩) HS7 ?_
                  rotate_left
                  (intro w' hSw'; have ⟨_, _, _⟩ := hSw'; go_simp; try with_reducible rfl)
                  try simp only [Act.put, List.setIfInBounds_toArray, List.set_cons_zero, List.set_cons_succ, List.getElem_toArray, List.getElem_cons_zero, List.getElem_cons_succ]
                  refine wpAnyG_ready (rs := [26]) (by kernel_rfl) (by simp) ?_
                  refine AllG.cons rfl (ph' := true) (by kernel_rfl) (fun K hK => ?_) AllG.nil
                  go_simp
                  refine hK.out _ _ (fun h => by cases h) ?_
                  clear hK K
                  try simp only [Act.put, List.setIfInBounds_toArray, List.set_cons_zero, List.set_cons_succ, List.getElem_toArray, List.getElem_cons_zero, List.getElem_cons_succ]
                  refine wpAnyG_done (by kernel_rfl) ?_ _
                  clear hmod hrem hsub hm1 hrun p1 p2 HS HSA HS7 hic c1 t2 hzc' hpick
                  go_wp2_with fail
                  go_roundg (gk - 1)
                  case measure => omega
                  case rel => exact ⟨q + 1, _, by omega, by go_num, HPE, HBE, Lib.hid (HKy.out.trans HKE.out (fun _ _ e => e))⟩
                · have HPS : Hid (psI st.ids (b.back.take (q + 1)) = psI st.ids (b.back.take q)) := Lib.hid (psI_same (by omega))
                  have hkb : (0 : Int) < (k : Int) := by omega
                  have hkn0 : ¬ (q : Int) < 7 := by omega
                  go_wp2_with fail
                  go_roundg (gk - 1)
                  case measure => omega
                  case rel => exact ⟨q + 1, cv, by omega, by go_num, Lib.hid ⟨HC.out.1, by rw [HPS.out]; exact HC.out.2⟩, HBb, HKy⟩
            · obtain rfl : q = bl := by omega
              rw [← HBL.out, List.take_length] at HC
              have r3 : wr.cell? ⟨wo.heap.size, 3, none⟩ = some (.bool b.lost) := by have := HBb.out; simp [World.cell?, this]
              obtain ⟨cva, cvc, rfl, -, -⟩ := HC.out.2.form
              have HPL : Hid ((psI st.ids b.back).length ≤ 7) := Lib.hid (by
                unfold psI; split
                · simp
                · rw [List.length_map, List.length_take]; omega)
              obtain ⟨cn, hcn⟩ : ∃ cn, (psI st.ids b.back).length = cn := ⟨_, rfl⟩
              rw [hcn] at HC
              obtain ⟨v', w7, hrun, p1, p2, p3, p4, p5, p7, p6⟩ := par_step HC.out.1 HC.out.2 (Nat.le_add_right _ 1) 54321 (by have := HPL.out; omega)
              obtain ⟨va, vc, rfl, -, -⟩ := p4.form
              obtain ⟨vn, hvn⟩ : ∃ vn, (psI st.ids b.back ++ [54321]).length = vn := ⟨_, rfl⟩
              rw [hvn] at hrun p3 p4 p5 p7
              rw [show ((54321 : Nat) : Int) = 54321 from rfl] at hrun
              have c1 : wr.cell? ⟨wo.heap.size + 1, 1, none⟩ = some (.slice cva cn cvc) := HC.out.1.cells.2.1
              have HP7 : Hid (ComAt (w7.setCell ⟨wo.heap.size + 1, 1, none⟩ (.slice va vn vc)) (wo.heap.size + 1) T (.slice va vn vc) b.date ∧ OwnI wo.heap.size (w7.setCell ⟨wo.heap.size + 1, 1, none⟩ (.slice va vn vc)) (.slice va vn vc) (psI st.ids b.back ++ [54321]) ∧ Kept (fun k => wo.heap.size ≤ k) wr (w7.setCell ⟨wo.heap.size + 1, 1, none⟩ (.slice va vn vc)) ∧ (w7.setCell ⟨wo.heap.size + 1, 1, none⟩ (.slice va vn vc)).heap[wo.heap.size]? = some (.cells #[.slice ba q bc, .int .i64 b.date, .bool b.blob, .bool b.lost, .bool b.bare] 52 (0, 0))) := Lib.hid ⟨p3, p4, p5, (p7.block _ (Array.getElem?_eq_some_iff.1 HBb.out).1 (fun e => by
                    rcases e with e | e
                    · omega
                    · obtain ⟨cur, h9⟩ := HC.out.2.blockT e
                      rw [HBb.out] at h9
                      simp at h9)).trans HBb.out⟩
              clear hcn hvn p3 p4 p5 p6 p7 hql
              go_upto_if 95 with fail
              go_cut [] from 94 to 100 (fun wx => ∃ ua un uc, ComAt wx (wo.heap.size + 1) T (.slice ua un uc) b.date ∧ OwnI wo.heap.size wx (.slice ua un uc) (psOf st.ids b) ∧ wx.heap[wo.heap.size]? = some (.cells #[.slice ba q bc, .int .i64 b.date, .bool b.blob, .bool b.lost, .bool b.bare] 52 (0, 0)) ∧ Kept (fun k => wo.heap.size ≤ k) wo wx)
              case first =>
                cases hlost : b.lost with
                | true =>
                  have HPS : Hid (psOf st.ids b = psI st.ids b.back ++ [54321]) := Lib.hid (by unfold psOf psI; rw [hlost]; rfl)
                  rw [hlost] at r3
                  clear hlost
                  go_wp2_with (at_builtin; refine wpList_append_run rfl (.tmp 97) (.tmp 98) #[28, 28] rfl _ _ _ _ rfl rfl hrun ?_)
                  go_meet
                  case rel => exact ⟨_, _, _, HP7.out.1, by rw [HPS.out]; exact HP7.out.2.1, HP7.out.2.2.2, HKy.out.trans HP7.out.2.2.1 (fun _ _ e => e)⟩
                | false =>
                  have HPS : Hid (psOf st.ids b = psI st.ids b.back) := Lib.hid (by unfold psOf psI; rw [hlost]; simp)
                  rw [hlost] at r3
                  clear hlost
                  go_wp2_with fail
                  go_meet
                  case rel => exact ⟨_, _, _, HC.out.1, by rw [HPS.out]; exact HC.out.2, HBb.out, HKy.out⟩
              case rest =>
                obtain ⟨ua, un, uc, hcC, hcO, hcB, hcK⟩ := hcut
                obtain ⟨wp, hwp⟩ : ∃ wp, wp = wc := ⟨_, rfl⟩
                subst hwp
                have hun : un = (psOf st.ids b).length := by obtain ⟨_, _, e, -, -⟩ := hcO.form; injection e
                have HUN := Lib.hid hun
                have HE := Lib.hid (And.intro hcC (And.intro hcO (And.intro hcB hcK)))
                obtain ⟨z0, z1, z2, z3, z4, -⟩ := hcC.cells
                have r2 : wp.cell? ⟨wo.heap.size, 2, none⟩ = some (.bool b.blob) := by simp [World.cell?, hcB]
                have r1 : wp.cell? ⟨wo.heap.size, 1, none⟩ = some (.int .i64 b.date) := by simp [World.cell?, hcB]
                have HPS := Lib.hid (HH.out.1.ps b)
                have HTZ : Hid (T ≠ 0 ∧ T < 18446744073709551616) := Lib.hid (by
                  rw [← HTT.out, ← HZ.out]
                  constructor
                  · split <;> decide
                  · split <;> decide)
                clear hcC hcO hcB hcK hun HP7 HC HBb HKy r3 c1 hrun p1 p2 hqg
                go_upto_if 104 with fail
                go_cut [12] from 101 to 110 (fun u12 wx => Kept (fun _ => False) wp wx ∧ EncOK wx u12 (objOf st.ids b))
                case first =>
                  cases hblob : b.blob with
                  | true =>
                    rw [hblob] at r2
                    have hw8 : IntKind.u8.wrap b.date = (((UInt8.ofNat (b.date % 256).toNat).toNat : Nat) : Int) := by
                      rw [UInt8.toNat_ofNat']
                      have h1 := Int.emod_nonneg b.date (b := 256) (by omega)
                      have h2 := Int.emod_lt_of_pos b.date (b := 256) (by omega)
                      have h3 : (b.date % 256).toNat % 2 ^ 8 = (b.date % 256).toNat := Nat.mod_eq_of_lt (by omega)
                      rw [h3]
                      show b.date % 256 = _
                      omega
                    obtain ⟨X, hX⟩ : ∃ X, UInt8.ofNat (b.date % 256).toNat = X := ⟨_, rfl⟩
                    rw [hX] at hw8
                    have HBY := Lib.hid (byteOwn wp X (X.toNat : Int) rfl)
                    have HEN : Hid (EncOK (wp.alloc (.cells #[.int .u8 (X.toNat : Int)] 5)) (.iface 66 (.agg #[.slice (some ⟨wp.heap.size, 0, none⟩) 1 1])) (objOf st.ids b)) := Lib.hid (fun W hk => by
                      have e : (objOf st.ids b).enc = [98] ++ [X] := by
                        unfold objOf
                        rw [hblob, ← hX]
                        rfl
                      rw [e]
                      exact encode_blob W _ _ [X] (HBY.out.own.isB.keptF hk (fun _ _ f => f)) (by simp))
                    clear hblob hX
                    go_wp2_with fail
                    go_meet
                    case rel => exact ⟨HBY.out.kept, HEN.out⟩
                  | false =>
                    rw [hblob] at r2
                    have HEN : Hid (EncOK wp (.iface 61 (.agg #[.int .u64 T, .slice ua un uc, .string { data := #[] }, .int .i64 b.date, .string { data := #[] }])) (objOf st.ids b)) := Lib.hid (fun W hk => by
                      have h9 := encode_commit W T ua uc (psOf st.ids b) b.date (by rw [← HUN.out]; exact (HE.out.2.1.keptF hk (fun _ _ f => f)).isI HPS.out.2.2) HTZ.out.1 HTZ.out.2 (psOf_length _ _) HPS.out.2.1
                      rw [← HUN.out] at h9
                      have e : (objOf st.ids b).enc = encC T (psOf st.ids b) b.date := by
                        unfold objOf
                        rw [hblob, ← HTT.out, ← HZ.out]
                        rfl
                      rw [e]
                      exact h9)
                    clear hblob
                    go_wp2_with fail
                    go_meet
                    case rel => exact ⟨Kept.refl _ _, HEN.out⟩
                case rest =>
                  obtain ⟨hkE, hEN⟩ := hcut
                  obtain ⟨wq, hwq⟩ : ∃ wq, wq = wc := ⟨_, rfl⟩
                  subst hwq
                  have HKq : Hid (Kept (fun k => wo.heap.size ≤ k) wo wq) := Lib.hid (HE.out.2.2.2.trans (hkE.mono (fun _ _ f => f.elim)) (fun _ _ e => e))
                  have HBq : Hid (BuildAt wq w.heap.size Hb s F st m nv iv bv S) := Lib.hid (HB.out.kept HKq.out (fun k e e2 => by have := HB.out.below k e; omega))
                  have HPQ := Lib.hid (oput_any HBq.out.ob (by have := HH.out.2.2.1; omega) (objOf st.ids b) (objOf_ok HH.out.1 (HFIT.out b (by rw [← HBQ.out]; exact List.getElem_mem hkl))) _ (hEN wq (Kept.refl _ _)))
                  have HER := Lib.hid (putO_err st.os (objOf st.ids b))
                  have HST : Hid (bornsF st (b :: (l.take 24).drop (k + 1)) = R) := Lib.hid (by
                    have h1 := HR.out
                    rw [List.drop_eq_getElem_cons (by rw [List.length_take]; omega), List.getElem_take, HBQ.out] at h1
                    exact h1)
                  obtain ⟨⟨x, er, os8⟩, hP⟩ : ∃ p, putO st.os (objOf st.ids b) = p := ⟨_, rfl⟩
                  rw [hP] at HPQ HER
                  simp only at HPQ HER
                  have HPP := Lib.hid hP
                  have HKE := Lib.hid hkE
                  clear hkE hEN hP r1 r2
                  go_wp2_with fail
                  refine HPQ.out.mono ?_
                  rintro e w8 ⟨rfl, F8, hob8, hF8, hk8⟩
                  have HK8 := Lib.hid (And.intro hob8 (And.intro hF8 hk8))
                  have HK8w : Hid (Kept (fun _ => False) w w8) := Lib.hid ((HK.out.more HKq.out (fun i e => Nat.le_trans HK.out.size e)).more hk8 (fun i e => HH.out.2.2.2 i e))
                  clear hob8 hF8 hk8
                  by_cases hov : er = 7 ∨ x = 12345 ∨ x = 54321
                  · have HRN : R = none := by
                      have h1 := HST.out
                      unfold bornsF bornStep at h1
                      rw [HPP.out] at h1
                      simp only [hov, if_true] at h1
                      exact h1.symm
                    subst HRN
                    by_cases h7 : er = 7
                    · subst h7
                      clear hov
                      go_wp2_with fail
                      go_ret2
                      exact ⟨rfl, HK8w.out⟩
                    · obtain rfl : er = 0 := HER.out.resolve_right h7
                      by_cases h1 : x = 12345
                      · subst h1
                        clear hov
                        go_wp2_with fail
                        go_ret2
                        exact ⟨rfl, HK8w.out⟩
                      · obtain rfl : x = 54321 := by rcases hov with h | h | h; exact absurd h h7; exact absurd h h1; exact h
                        clear hov h1
                        go_wp2_with fail
                        go_ret2
                        exact ⟨rfl, HK8w.out⟩
                  · obtain rfl : er = 0 := HER.out.resolve_right (fun e => hov (.inl e))
                    have HSTE : Hid (bornStep st b = some ⟨os8, st.ids ++ [x], if (findN st.nd x).isNone then st.nd ++ [⟨x, psOf st.ids b, b.blob⟩] else st.nd, st.bare ++ [b.bare && !b.blob]⟩) := Lib.hid (by
                      unfold bornStep
                      rw [HPP.out]
                      simp only [hov, if_false])
                    have hx1 : ((x : Int) == 12345) = false := by simp; intro e; exact hov (.inr (.inl (by omega)))
                    have hx2 : ((x : Int) == 54321) = false := by simp; intro e; exact hov (.inr (.inr (by omega)))
                    have HB8 : Hid (BuildAt w8 w.heap.size Hb s F8 { st with os := os8 } (m + 1) nv iv bv S) := Lib.hid (HBq.out.put HK8.out.1 HK8.out.2.1 HK8.out.2.2)
                    have hFn : ∀ k, wo.heap.size ≤ k → ¬ F k := fun k e e2 => by have := HB.out.ob.lt k e2; omega
                    have HKp8 : Hid (Kept F wp w8) := Lib.hid ((HKE.out.mono (fun _ _ f => f.elim)).trans HK8.out.2.2 (fun _ _ e => e))
                    have HC8 : Hid (ComAt w8 (wo.heap.size + 1) T (.slice ua un uc) b.date ∧ OwnI wo.heap.size w8 (.slice ua un uc) (psOf st.ids b) ∧ w8.heap[wo.heap.size]? = some (.cells #[.slice ba q bc, .int .i64 b.date, .bool b.blob, .bool b.lost, .bool b.bare] 52 (0, 0))) := Lib.hid
                      ⟨HE.out.1.kept HKp8.out (hFn _ (by omega)), HE.out.2.1.keptF HKp8.out (fun g e => hFn g (HE.out.2.1.base e).1), (HKp8.out.block _ (Array.getElem?_eq_some_iff.1 HE.out.2.2.1).1 (hFn _ (Nat.le_refl _))).trans HE.out.2.2.1⟩
                    have HUB : Hid (∀ g, (Value.slice ua un uc).ownBlock = some g → ¬ histF Hb F8 nv iv bv S g) := Lib.hid (fun g e hf => by
                      have h1 := HE.out.2.1.base e
                      have h2 := HKE.out.size
                      rcases hf with e2 | e2 | e2
                      · have := HB.out.lt; omega
                      · rcases HK8.out.2.1 g e2 with e3 | e3
                        · exact hFn g h1.1 e3
                        · omega
                      · have := HB.out.below g (.inr (.inr e2)); omega)
                    obtain ⟨na, nc, rfl, -, -⟩ := HB8.out.nd.form
                    have HSL : Hid (S.length ≤ 24) := Lib.hid (by
                      have h1 := HH.out.1.len
                      have h2 := HH.out.2.1
                      rw [← HB8.out.ndS] at h1
                      simp [nodesD] at h1
                      omega)
                    obtain ⟨sn, hsn⟩ : ∃ sn, S.length = sn := ⟨_, rfl⟩
                    have HSN := Lib.hid hsn
                    rw [hsn] at HB8 HUB
                    obtain ⟨-, t1, -⟩ := HB8.out.c
                    have HFI := Lib.hid (rfind_any w8 w8.heap.size na sn nc S x (HB8.out.nd.isD (Nat.le_refl _) (fun p hp => by
                      have hpn : p.node ∈ st.nd := by rw [← HB8.out.ndS]; exact List.mem_map_of_mem hp
                      exact ⟨HH.out.1.node_lt _ hpn, (HB8.out.pv p hp).1, (HH.out.1.par _ hpn).2⟩)))
                    have HX8 : Hid (Kept (fun k => w.heap.size ≤ k) w8 w8) := Lib.hid (Kept.refl _ _)
                    clear hov hsn hFn
                    go_wp2_with fail
                    refine HFI.out.mono ?_
                    rintro e w9 ⟨⟨r, rfl, hr⟩, rfl⟩
                    have HFF := Lib.hid (find_first hr)
                    clear hr
                    go_upto_if 135 with fail
                    go_cut [] from 127 to 150 (fun wx => ∃ na nn nc S2, BuildAt wx w.heap.size Hb s F8 { st with os := os8, nd := if (findN st.nd x).isNone then st.nd ++ [⟨x, psOf st.ids b, b.blob⟩] else st.nd } (m + 1) (.slice na nn nc) iv bv S2 ∧ Kept (fun k => w.heap.size ≤ k) w8 wx ∧ wx.heap[wo.heap.size]? = some (.cells #[.slice ba q bc, .int .i64 b.date, .bool b.blob, .bool b.lost, .bool b.bare] 52 (0, 0)))
                    case first =>
                      rcases HFF.out with ⟨rfl, hf⟩ | ⟨j, hj, rfl, -, hf⟩
                      · have hkd : Kept (fun _ => False) w8 w8.drew := (Kept.refl _ _).drew
                        obtain ⟨v', w10, hrun, p1, p2, p3, p4, p5, va, vn, vc, rfl⟩ := node_step (HB8.out.keptN hkd) ⟨x, .slice ua un uc, psOf st.ids b, b.blob⟩ ((HC8.out.2.1.keptF hkd (fun _ _ f => f)).low HK.out.size) HUB.out (by have := HSL.out; omega)
                        have HN : Hid (BuildAt (w10.setCell ⟨Hb, 1, none⟩ (.slice va vn vc)) w.heap.size Hb s F8 { st with os := os8, nd := if (findN st.nd x).isNone then st.nd ++ [⟨x, psOf st.ids b, b.blob⟩] else st.nd } (m + 1) (.slice va vn vc) iv bv (S ++ [⟨x, .slice ua un uc, psOf st.ids b, b.blob⟩])) := Lib.hid (by
                          have h1 := HB8.out.ndS
                          simp only at h1
                          rw [h1] at hf
                          rw [hf]
                          exact p3)
                        have hne := HB8.out.ne
                        have hC1 := (HC8.out.1.kept hkd (fun f => f)).cells.2.1
                        have hB2 : w8.drew.cell? ⟨wo.heap.size, 2, none⟩ = some (.bool b.blob) := by
                          have h9 := (hkd.block _ (Array.getElem?_eq_some_iff.1 HC8.out.2.2).1 (fun f => f)).trans HC8.out.2.2
                          simp [World.cell?, h9]
                        have HS : w8.drew.cell? ⟨Hb, 1, none⟩ = some (.slice na sn nc) ∧ w8.drew.cell? ⟨wo.heap.size + 1, 1, none⟩ = some (.slice ua un uc) ∧ w8.drew.cell? ⟨wo.heap.size, 2, none⟩ = some (.bool b.blob) := ⟨t1, hC1, hB2⟩
                        have hkA : Kept (fun _ => False) w8.drew (w8.drew.alloc (.cells #[.int .u64 x, .slice ua un uc, .bool b.blob] 70)) := (Kept.refl _ _).alloc _
                        have HSA : (w8.drew.alloc (.cells #[.int .u64 x, .slice ua un uc, .bool b.blob] 70)).cell? ⟨Hb, 1, none⟩ = some (.slice na sn nc) ∧ (w8.drew.alloc (.cells #[.int .u64 x, .slice ua un uc, .bool b.blob] 70)).cell? ⟨wo.heap.size + 1, 1, none⟩ = some (.slice ua un uc) ∧ (w8.drew.alloc (.cells #[.int .u64 x, .slice ua un uc, .bool b.blob] 70)).cell? ⟨wo.heap.size, 2, none⟩ = some (.bool b.blob) := ⟨hkA.cell HS.1 (fun f => f), hkA.cell HS.2.1 (fun f => f), hkA.cell HS.2.2 (fun f => f)⟩
                        have hnlt : ∀ g, (Value.slice na sn nc).ownBlock = some g → g < wo.heap.size := fun g e => (HB.out.nd.base (g := g) (by rw [HSN.out]; exact e)).2
                        have HS10 : w10.cell? ⟨Hb, 1, none⟩ = some (.slice na sn nc) ∧ w10.cell? ⟨wo.heap.size + 1, 1, none⟩ = some (.slice ua un uc) ∧ w10.cell? ⟨wo.heap.size, 2, none⟩ = some (.bool b.blob) := ⟨p1, p5.cell HS.2.1 (fun e => by have := hnlt _ e; simp only at this; omega), p5.cell HS.2.2 (fun e => by have := hnlt _ e; simp only at this; omega)⟩
                        have HF10 : Hid (Kept (fun k => w.heap.size ≤ k) w8 (w10.setCell ⟨Hb, 1, none⟩ (.slice va vn vc)) ∧ (w10.setCell ⟨Hb, 1, none⟩ (.slice va vn vc)).heap[wo.heap.size]? = some (.cells #[.slice ba q bc, .int .i64 b.date, .bool b.blob, .bool b.lost, .bool b.bare] 52 (0, 0))) := Lib.hid ⟨(hkd.mono (fun _ _ f => f.elim)).trans p4 (fun i _ e => by
                            rcases e with e | e
                            · have := HB8.out.nH; omega
                            · exact (HB8.out.nd.base e).1), (p4.block _ (Array.getElem?_eq_some_iff.1 HC8.out.2.2).1 (fun e => by
                            rcases e with e | e
                            · have := HB.out.lt; omega
                            · have := hnlt _ e; omega)).trans ((hkd.block _ (Array.getElem?_eq_some_iff.1 HC8.out.2.2).1 (fun f => f)).trans HC8.out.2.2)⟩
                        clear hf p3 p4 p5 hne hkA hkd hnlt hC1 hB2
                        go_wp2_with fail
                        refine wp_region_phase (fun w' => w'.cell? ⟨Hb, 1, none⟩ = some (.slice na sn nc) ∧ w'.cell? ⟨wo.heap.size + 1, 1, none⟩ = some (.slice ua un uc) ∧ w'.cell? ⟨wo.heap.size, 2, none⟩ = some (.bool b.blob)) (fun i => i == 15) (by kernel_rfl) HS (fun _ => ?_)
                        refine wpAnyG_take (i := 0) (v := ?_) rfl (by kernel_rfl) (by kernel_rfl) (by kernel_rfl) (by kernel_rfl) (fun _ _ _ h => h) (Or.inl ⟨by rfl, ?_⟩) HS ?_
                        rotate_left
                        (intro w' hSw'; have ⟨_, _, _⟩ := hSw'; go_simp; try with_reducible rfl)
                        try simp only [Act.put, List.setIfInBounds_toArray, List.set_cons_zero, List.set_cons_succ, List.getElem_toArray, List.getElem_cons_zero, List.getElem_cons_succ]
                        refine wpAnyG_take (i := 1) (v := ?_) rfl (by kernel_rfl) (by kernel_rfl) (by kernel_rfl) (by kernel_rfl) (fun _ _ _ h => h) (Or.inl ⟨by rfl, ?_⟩) HS ?_
                        rotate_left
                        (intro w' hSw'; have ⟨_, _, _⟩ := hSw'; go_simp; try with_reducible rfl)
                        try simp only [Act.put, List.setIfInBounds_toArray, List.set_cons_zero, List.set_cons_succ, List.getElem_toArray, List.getElem_cons_zero, List.getElem_cons_succ]
                        refine wpAnyG_take (i := 2) (v := ?_) rfl (by kernel_rfl) (by kernel_rfl) (by kernel_rfl) (by kernel_rfl) (fun _ _ _ h => h) (Or.inl ⟨by rfl, ?_⟩) HS ?_
                        rotate_left
                        (intro w' hSw'; have ⟨_, _, _⟩ := hSw'; go_simp; try with_reducible rfl)
                        try simp only [Act.put, List.setIfInBounds_toArray, List.set_cons_zero, List.set_cons_succ, List.getElem_toArray, List.getElem_cons_zero, List.getElem_cons_succ]
                        refine wpAnyG_take (i := 3) (v := ?_) rfl (by kernel_rfl) (by kernel_rfl) (by kernel_rfl) (by kernel_rfl) (fun _ _ _ h => h) (Or.inl ⟨by rfl, ?_⟩) HS ?_
                        rotate_left
                        (intro w' hSw'; have ⟨_, _, _⟩ := hSw'; go_simp; try with_reducible rfl)
                        try simp only [Act.put, List.setIfInBounds_toArray, List.set_cons_zero, List.set_cons_succ, List.getElem_toArray, List.getElem_cons_zero, List.getElem_cons_succ]
                        refine wpAnyG_take (i := 4) (v := ?_) rfl (by kernel_rfl) (by kernel_rfl) (by kernel_rfl) (by kernel_rfl) (fun _ _ _ h => h) (Or.inl ⟨by rfl, ?_⟩) HS ?_
                        rotate_left
                        (intro w' hSw'; have ⟨_, _, _⟩ := hSw'; go_simp; try with_reducible rfl)
                        try simp only [Act.put, List.setIfInBounds_toArray, List.set_cons_zero, List.set_cons_succ, List.getElem_toArray, List.getElem_cons_zero, List.getElem_cons_succ]
                        refine wpAnyG_take (i := 5) (v := ?_) rfl (by kernel_rfl) (by kernel_rfl) (by kernel_rfl) (by kernel_rfl) (fun _ _ _ h => h) (Or.inl ⟨by rfl, ?_⟩) HS ?_
                        rotate_left
                        (intro w' hSw'; have ⟨_, _, _⟩ := hSw'; go_simp; try with_reducible rfl)
                        try simp only [Act.put, List.setIfInBounds_toArray, List.set_cons_zero, List.set_cons_succ, List.getElem_toArray, List.getElem_cons_zero, List.getElem_cons_succ]
                        refine wpAnyG_take (i := 6) (v := ?_) rfl (by kernel_rfl) (by kernel_rfl) (by kernel_rfl) (by kernel_rfl) (fun _ _ _ h => h) (Or.inl ⟨by rfl, ?_⟩) HS ?_
                        rotate_left
                        (intro w' hSw'; have ⟨_, _, _⟩ := hSw'; go_simp; try with_reducible rfl)
                        try simp only [Act.put, List.setIfInBounds_toArray, List.set_cons_zero, List.set_cons_succ, List.getElem_toArray, List.getElem_cons_zero, List.getElem_cons_succ]
                        refine wpAnyG_take (i := 7) (v := ?_) rfl (by kernel_rfl) (by kernel_rfl) (by kernel_rfl) (by kernel_rfl) (fun _ _ _ h => h) (Or.inl ⟨by rfl, ?_⟩) HS ?_
                        rotate_left
                        (intro w' hSw'; have ⟨_, _, _⟩ := hSw'; go_simp; try with_reducible rfl)
                        try simp only [Act.put, List.setIfInBounds_toArray, List.set_cons_zero, List.set_cons_succ, List.getElem_toArray, List.getElem_cons_zero, List.getElem_cons_succ]
                        refine wpAnyG_take (i := 8) (v := ?_) rfl (by kernel_rfl) (by kernel_rfl) (by kernel_rfl) (by kernel_rfl) (fun _ _ _ h => h) (Or.inl ⟨by rfl, ?_⟩) HS ?_
                        rotate_left
                        (intro w' hSw'; have ⟨_, _, _⟩ := hSw'; go_simp; try with_reducible rfl)
                        try simp only [Act.put, List.setIfInBounds_toArray, List.set_cons_zero, List.set_cons_succ, List.getElem_toArray, List.getElem_cons_zero, List.getElem_cons_succ]
                        refine wpAnyG_take (i := 9) (v := ?_) rfl (by kernel_rfl) (by kernel_rfl) (by kernel_rfl) (by kernel_rfl) (fun _ _ _ h => h) (Or.inl ⟨by rfl, ?_⟩) HS ?_
                        rotate_left
                        (intro w' hSw'; have ⟨_, _, _⟩ := hSw'; go_simp; try with_reducible rfl)
                        try simp only [Act.put, List.setIfInBounds_toArray, List.set_cons_zero, List.set_cons_succ, List.getElem_toArray, List.getElem_cons_zero, List.getElem_cons_succ]
                        refine wpAnyG_take (i := 10) (v := ?_) rfl (by kernel_rfl) (by kernel_rfl) (by kernel_rfl) (by kernel_rfl) (fun _ _ _ h => h) (Or.inl ⟨by rfl, ?_⟩) HS ?_
                        rotate_left
                        (intro w' hSw'; have ⟨_, _, _⟩ := hSw'; go_simp; try with_reducible rfl)
                        try simp only [Act.put, List.setIfInBounds_toArray, List.set_cons_zero, List.set_cons_succ, List.getElem_toArray, List.getElem_cons_zero, List.getElem_cons_succ]
                        refine wpAnyG_ready (rs := [11]) (by kernel_rfl) (by simp) ?_
                        refine AllG.cons rfl (ph' := false) (by kernel_rfl) (fun K hK => ?_) AllG.nil
                        go_simp
                        refine hK.out _ _ (fun _ => HSA) ?_
                        clear hK K
                        try simp only [Act.put, List.setIfInBounds_toArray, List.set_cons_zero, List.set_cons_succ, List.getElem_toArray, List.getElem_cons_zero, List.getElem_cons_succ]
                        refine wpAnyG_ready (rs := [12]) (by kernel_rfl) (by simp) ?_
                        refine AllG.cons rfl (ph' := false) (by kernel_rfl) (fun K hK => ?_) AllG.nil
                        refine step_append_run rfl (.tmp 140) (.tmp 147) #[34, 34] rfl _ _ _ _ rfl rfl hrun ?_
                        refine hK.out _ _ (fun _ => HS10) ?_
                        clear hK K
                        try simp only [Act.put, List.setIfInBounds_toArray, List.set_cons_zero, List.set_cons_succ, List.getElem_toArray, List.getElem_cons_zero, List.getElem_cons_succ]
                        refine wpAnyG_ready (rs := [13]) (by kernel_rfl) (by simp) ?_
                        refine AllG.cons rfl (ph' := false) (by kernel_rfl) (fun K hK => ?_) AllG.nil
                        go_simp
                        refine hK.out _ _ (fun _ => HS10) ?_
                        clear hK K
                        try simp only [Act.put, List.setIfInBounds_toArray, List.set_cons_zero, List.set_cons_succ, List.getElem_toArray, List.getElem_cons_zero, List.getElem_cons_succ]
                        refine wpAnyG_ready (rs := [14]) (by kernel_rfl) (by simp) ?_
                        refine AllG.cons rfl (ph' := false) (by kernel_rfl) (fun K hK => ?_) AllG.nil
                        go_simp
                        refine hK.out _ _ (fun _ => HS10) ?_
                        clear hK K
                        try simp only [Act.put, List.setIfInBounds_toArray, List.set_cons_zero, List.set_cons_succ, List.getElem_toArray, List.getElem_cons_zero, List.getElem_cons_succ]
                        refine wpAnyG_ready (rs := [15]) (by kernel_rfl) (by simp) ?_
                        refine AllG.cons rfl (ph' := true) (by kernel_rfl) (fun K hK => ?_) AllG.nil
                        go_simp
                        refine hK.out _ _ (fun h => by cases h) ?_
                        clear hK K
                        try simp only [Act.put, List.setIfInBounds_toArray, List.set_cons_zero, List.set_cons_succ, List.getElem_toArray, List.getElem_cons_zero, List.getElem_cons_succ]
                        refine wpAnyG_done (by kernel_rfl) ?_ _
                        clear HS HSA HS10 hrun p1 p2
                        go_wp2_with fail
                        go_meet
                        case rel => exact ⟨_, _, _, _, HN.out, HF10.out.1, HF10.out.2⟩
                      · have HN : Hid (BuildAt w8 w.heap.size Hb s F8 { st with os := os8, nd := if (findN st.nd x).isNone then st.nd ++ [⟨x, psOf st.ids b, b.blob⟩] else st.nd } (m + 1) (.slice na sn nc) iv bv S) := Lib.hid (by
                          have h1 := HB8.out.ndS
                          simp only at h1
                          rw [h1] at hf
                          rw [hf]
                          exact HB8.out)
                        have hj0 : ¬ (j : Int) < 0 := by omega
                        clear hf
                        go_wp2_with fail
                        go_meet
                        case rel => exact ⟨_, _, _, _, HN.out, HX8.out, HC8.out.2.2⟩
                    case rest =>
                      obtain ⟨ma, mn, mc, S2, hB2, hk2, hBb2⟩ := hcut
                      obtain ⟨wx, hwx⟩ : ∃ wx, wx = wc := ⟨_, rfl⟩
                      subst hwx
                      obtain ⟨ia, ic, rfl, -, -⟩ := hB2.ids.form
                      obtain ⟨ta, tc, rfl, -, -⟩ := hB2.bare.form
                      have HLN : Hid (st.ids.length ≤ 100000 ∧ st.bare.length ≤ 100000) := Lib.hid (by have := HH.out.1.bare; have := HH.out.2.1; omega)
                      have hkd : Kept (fun _ => False) wx wx.drew := (Kept.refl _ _).drew
                      have hBD := hB2.keptN hkd
                      have HBD := Lib.hid hBD
                      obtain ⟨yy, hyy⟩ : ∃ yy, (b.bare && !b.blob) = yy := ⟨_, rfl⟩
                      have HYY := Lib.hid hyy
                      have HB0 := hBD.both HLN.out x yy
                      have HB1 := HB0.allocI
                      obtain ⟨av, wj, hrunI, HB2⟩ := HB1.appI
                      have HB3 := HB2.allocT
                      obtain ⟨tv, wl, hrunT, HB4⟩ := HB3.appT
                      obtain ⟨ja, jc, rfl, -, -⟩ := OwnI.form HB4.ai.1
                      obtain ⟨ka, kc, rfl, -, -⟩ := OwnT.form HB4.at_.1
                      simp only [List.length_append, List.length_singleton] at hrunI hrunT HB2 HB3 HB4
                      have hhc := Both.hcell HBD.out HB4
                      have HEND : Hid (BuildAt ((wl.setCell ⟨Hb, 2, none⟩ (.slice ja (st.ids.length + 1) jc)).setCell ⟨Hb, 3, none⟩ (.slice ka (st.bare.length + 1) kc)) w.heap.size Hb s F8 ⟨os8, st.ids ++ [x], if (findN st.nd x).isNone then st.nd ++ [⟨x, psOf st.ids b, b.blob⟩] else st.nd, st.bare ++ [yy]⟩ (m + 1) (.slice ma mn mc) (.slice ja (st.ids.length + 1) jc) (.slice ka (st.bare.length + 1) kc) S2 ∧ Kept (fun k => k = Hb ∨ (Value.slice ia st.ids.length ic).ownBlock = some k ∨ (Value.slice ta st.bare.length tc).ownBlock = some k) wx.drew ((wl.setCell ⟨Hb, 2, none⟩ (.slice ja (st.ids.length + 1) jc)).setCell ⟨Hb, 3, none⟩ (.slice ka (st.bare.length + 1) kc))) := Lib.hid (Both.fin HBD.out HB4 (fun g hg => (heap_setCell_ne hg _).trans (heap_setCell_ne hg _)) (by simp) ⟨rfl, rfl, rfl⟩ (by
                        rw [heap_setCell_row (heap_setCell_row hhc _) _]
                        rfl))
                      have hib : ∀ g, (Value.slice ia st.ids.length ic).ownBlock = some g → g < wo.heap.size := fun g e => (HB.out.ids.base (g := g) e).2
                      have htb : ∀ g, (Value.slice ta st.bare.length tc).ownBlock = some g → g < wo.heap.size := fun g e => (HB.out.bare.base (g := g) e).2
                      have hbb : wx.drew.heap[wo.heap.size]? = some (.cells #[.slice ba q bc, .int .i64 b.date, .bool b.blob, .bool b.lost, .bool b.bare] 52 (0, 0)) := (hkd.block _ (Array.getElem?_eq_some_iff.1 hBb2).1 (fun f => f)).trans hBb2
                      have hSf : ∀ W', Kept (fun k => (Value.slice ia st.ids.length ic).ownBlock = some k ∨ (Value.slice ta st.bare.length tc).ownBlock = some k) wx.drew W' → W'.cell? ⟨Hb, 2, none⟩ = some (.slice ia st.ids.length ic) ∧ W'.cell? ⟨Hb, 3, none⟩ = some (.slice ta st.bare.length tc) ∧ W'.cell? ⟨wo.heap.size, 4, none⟩ = some (.bool b.bare) ∧ W'.cell? ⟨wo.heap.size, 2, none⟩ = some (.bool b.blob) := fun W' hk => by
                        have h1 := (hk.block Hb hBD.lt (fun e => by
                          rcases e with e | e
                          · exact hBD.ne.2.1 e
                          · exact hBD.ne.2.2.1 e)).trans hBD.cell
                        have h2 := (hk.block wo.heap.size (Array.getElem?_eq_some_iff.1 hbb).1 (fun e => by
                          rcases e with e | e
                          · have := hib _ e; omega
                          · have := htb _ e; omega)).trans hbb
                        refine ⟨?_, ?_, ?_, ?_⟩ <;> simp [World.cell?, h1, h2]
                      have HS0 := hSf _ HB0.k
                      have HS1 := hSf _ HB1.k
                      have HS2 := hSf _ HB2.k
                      have HS3 := hSf _ HB3.k
                      have HS4 := hSf _ HB4.k
                      have hcl : wl.cell? ⟨Hb, 2, none⟩ = some (.slice ia st.ids.length ic) := HS4.1
                      have hfr : wl.frozen? ⟨Hb, 2, none⟩ = false := by simp [World.frozen?, hhc]
                      have hcl3 : wl.cell? ⟨Hb, 3, none⟩ = some (.slice ta st.bare.length tc) := HS4.2.1
                      have hfr3 : wl.frozen? ⟨Hb, 3, none⟩ = false := by simp [World.frozen?, hhc]
                      have hstep := HSTE.out
                      rw [hyy] at hstep
                      have HHN : Hid (HOk ⟨os8, st.ids ++ [x], if (findN st.nd x).isNone then st.nd ++ [⟨x, psOf st.ids b, b.blob⟩] else st.nd, st.bare ++ [yy]⟩ ∧ (st.ids ++ [x]).length = k + 1 ∧ m + 1 = k + 1 + 1 ∧ ∀ k, F8 k → w.heap.size ≤ k) := Lib.hid ⟨HH.out.1.step hstep, by simp [HH.out.2.1], by have := HH.out.2.2.1; omega, fun k hk => by
                        rcases HK8.out.2.1 k hk with h9 | h9
                        · exact HH.out.2.2.2 k h9
                        · have := HK.out.size; have := HKq.out.size; omega⟩
                      have HRN : Hid (bornsF ⟨os8, st.ids ++ [x], if (findN st.nd x).isNone then st.nd ++ [⟨x, psOf st.ids b, b.blob⟩] else st.nd, st.bare ++ [yy]⟩ ((l.take 24).drop (k + 1)) = R) := Lib.hid (by
                        have h1 := HST.out
                        unfold bornsF at h1
                        rw [hstep] at h1
                        exact h1)
                      have HKN : Hid (Kept (fun _ => False) w ((wl.setCell ⟨Hb, 2, none⟩ (.slice ja (st.ids.length + 1) jc)).setCell ⟨Hb, 3, none⟩ (.slice ka (st.bare.length + 1) kc))) := Lib.hid (((HK8w.out.more hk2 (fun i e => e)).more hkd (fun _ f => f.elim)).more HEND.out.2 (fun i e => by
                        rcases e with e | e | e
                        · have := hBD.nH; omega
                        · exact (hBD.ids.base e).1
                        · exact (hBD.bare.base e).1))
                      have HS5 : True ∧ (wl.setCell ⟨Hb, 2, none⟩ (.slice ja (st.ids.length + 1) jc)).cell? ⟨Hb, 3, none⟩ = some (.slice ta st.bare.length tc) ∧ (wl.setCell ⟨Hb, 2, none⟩ (.slice ja (st.ids.length + 1) jc)).cell? ⟨wo.heap.size, 4, none⟩ = some (.bool b.bare) ∧ (wl.setCell ⟨Hb, 2, none⟩ (.slice ja (st.ids.length + 1) jc)).cell? ⟨wo.heap.size, 2, none⟩ = some (.bool b.blob) := by
                        have hHb := HB.out.lt
                        refine ⟨trivial, ?_, ?_, ?_⟩
                        · rw [World.cell?_setCell_other _ _ _ _ (by simp)]; exact HS4.2.1
                        · exact (keptCell wl Hb 2 _).cell HS4.2.2.1 (fun e => by simp only at e; omega)
                        · exact (keptCell wl Hb 2 _).cell HS4.2.2.2 (fun e => by simp only at e; omega)
                      clear HB0 HB1 HB2 HB3 HB4 hhc hSf hib htb hbb hBb2 hBD hkd hB2 hk2 hstep
                      rcases Bool.eq_false_or_eq_true b.bare with hbare | hbare
                      · rw [hbare] at HS0 HS1 HS2 HS3 HS4 HS5 hyy
                        rw [Bool.true_and] at hyy
                        clear hbare
                        go_wp2_with fail
                        refine wp_region_phase (fun w' => w'.cell? ⟨Hb, 3, none⟩ = some (.slice ta st.bare.length tc) ∧ w'.cell? ⟨wo.heap.size, 4, none⟩ = some (.bool true) ∧ w'.cell? ⟨wo.heap.size, 2, none⟩ = some (.bool b.blob)) (fun i => i == 27) (by kernel_rfl) HS0.2 (fun _ => ?_)
                        refine wpAnyG_take (i := 0) (v := ?_) rfl (by kernel_rfl) (by kernel_rfl) (by kernel_rfl) (by kernel_rfl) (fun _ _ _ h => h) (Or.inl ⟨by rfl, ?_⟩) HS0.2 ?_
                        rotate_left
                        (intro w' hSw'; have ⟨_, _, _⟩ := hSw'; go_simp; try with_reducible rfl)
                        try simp only [Act.put, List.setIfInBounds_toArray, List.set_cons_zero, List.set_cons_succ, List.getElem_toArray, List.getElem_cons_zero, List.getElem_cons_succ]
                        refine wpAnyG_takeU (i := 1) (v := ?_) rfl (by kernel_rfl) (by kernel_rfl) (by kernel_rfl) (by kernel_rfl) (fun _ _ _ h => h) (Or.inl ⟨by rfl, ?_⟩) (fun _ => HS0.2) ?_
                        rotate_left
                        (intro w' hSw'; go_simp; try with_reducible rfl)
                        try simp only [Act.put, List.setIfInBounds_toArray, List.set_cons_zero, List.set_cons_succ, List.getElem_toArray, List.getElem_cons_zero, List.getElem_cons_succ]
                        refine wpAnyG_take (i := 2) (v := ?_) rfl (by kernel_rfl) (by kernel_rfl) (by kernel_rfl) (by kernel_rfl) (fun _ _ _ h => h) (Or.inl ⟨by rfl, ?_⟩) HS0.2 ?_
                        rotate_left
                        (intro w' hSw'; have ⟨_, _, _⟩ := hSw'; go_simp; try with_reducible rfl)
                        try simp only [Act.put, List.setIfInBounds_toArray, List.set_cons_zero, List.set_cons_succ, List.getElem_toArray, List.getElem_cons_zero, List.getElem_cons_succ]
                        refine wpAnyG_take (i := 3) (v := ?_) rfl (by kernel_rfl) (by kernel_rfl) (by kernel_rfl) (by kernel_rfl) (fun _ _ _ h => h) (Or.inl ⟨by rfl, ?_⟩) HS0.2 ?_
                        rotate_left
                        (intro w' hSw'; have ⟨_, _, _⟩ := hSw'; go_simp; try with_reducible rfl)
                        try simp only [Act.put, List.setIfInBounds_toArray, List.set_cons_zero, List.set_cons_succ, List.getElem_toArray, List.getElem_cons_zero, List.getElem_cons_succ]
                        refine wpAnyG_take (i := 4) (v := ?_) rfl (by kernel_rfl) (by kernel_rfl) (by kernel_rfl) (by kernel_rfl) (fun _ _ _ h => h) (Or.inl ⟨by rfl, ?_⟩) HS0.2 ?_
                        rotate_left
                        (intro w' hSw'; have ⟨_, _, _⟩ := hSw'; go_simp; try with_reducible rfl)
                        try simp only [Act.put, List.setIfInBounds_toArray, List.set_cons_zero, List.set_cons_succ, List.getElem_toArray, List.getElem_cons_zero, List.getElem_cons_succ]
                        refine wpAnyG_take (i := 6) (v := ?_) rfl (by kernel_rfl) (by kernel_rfl) (by kernel_rfl) (by kernel_rfl) (fun _ _ _ h => h) (Or.inl ⟨by rfl, ?_⟩) HS0.2 ?_
                        rotate_left
                        (intro w' hSw'; have ⟨_, _, _⟩ := hSw'; go_simp; try with_reducible rfl)
                        try simp only [Act.put, List.setIfInBounds_toArray, List.set_cons_zero, List.set_cons_succ, List.getElem_toArray, List.getElem_cons_zero, List.getElem_cons_succ]
                        refine wpAnyG_take (i := 9) (v := ?_) rfl (by kernel_rfl) (by kernel_rfl) (by kernel_rfl) (by kernel_rfl) (fun _ _ _ h => h) (Or.inl ⟨by rfl, ?_⟩) HS0.2 ?_
                        rotate_left
                        (intro w' hSw'; have ⟨_, _, _⟩ := hSw'; go_simp; try with_reducible rfl)
                        try simp only [Act.put, List.setIfInBounds_toArray, List.set_cons_zero, List.set_cons_succ, List.getElem_toArray, List.getElem_cons_zero, List.getElem_cons_succ]
                        refine wpAnyG_take (i := 10) (v := ?_) rfl (by kernel_rfl) (by kernel_rfl) (by kernel_rfl) (by kernel_rfl) (fun _ _ _ h => h) (Or.inl ⟨by rfl, ?_⟩) HS0.2 ?_
                        rotate_left
                        (intro w' hSw'; have ⟨_, _, _⟩ := hSw'; go_simp; try with_reducible rfl)
                        try simp only [Act.put, List.setIfInBounds_toArray, List.set_cons_zero, List.set_cons_succ, List.getElem_toArray, List.getElem_cons_zero, List.getElem_cons_succ]
                        refine wpAnyG_take (i := 11) (v := ?_) rfl (by kernel_rfl) (by kernel_rfl) (by kernel_rfl) (by kernel_rfl) (fun _ _ _ h => h) (Or.inl ⟨by rfl, ?_⟩) HS0.2 ?_
                        rotate_left
                        (intro w' hSw'; have ⟨_, _, _⟩ := hSw'; go_simp; try with_reducible rfl)
                        try simp only [Act.put, List.setIfInBounds_toArray, List.set_cons_zero, List.set_cons_succ, List.getElem_toArray, List.getElem_cons_zero, List.getElem_cons_succ]
                        refine wpAnyG_take (i := 12) (v := ?_) rfl (by kernel_rfl) (by kernel_rfl) (by kernel_rfl) (by kernel_rfl) (fun _ _ _ h => h) (Or.inl ⟨by rfl, ?_⟩) HS0.2 ?_
                        rotate_left
                        (intro w' hSw'; have ⟨_, _, _⟩ := hSw'; go_simp; try with_reducible rfl)
                        try simp only [Act.put, List.setIfInBounds_toArray, List.set_cons_zero, List.set_cons_succ, List.getElem_toArray, List.getElem_cons_zero, List.getElem_cons_succ]
                        refine wpAnyG_take (i := 13) (v := ?_) rfl (by kernel_rfl) (by kernel_rfl) (by kernel_rfl) (by kernel_rfl) (fun _ _ _ h => h) (Or.inl ⟨by rfl, ?_⟩) HS0.2 ?_
                        rotate_left
                        (intro w' hSw'; have ⟨_, _, _⟩ := hSw'; go_simp; try with_reducible rfl)
                        try simp only [Act.put, List.setIfInBounds_toArray, List.set_cons_zero, List.set_cons_succ, List.getElem_toArray, List.getElem_cons_zero, List.getElem_cons_succ]
                        refine wpAnyG_take (i := 14) (v := ?_) rfl (by kernel_rfl) (by kernel_rfl) (by kernel_rfl) (by kernel_rfl) (fun _ _ _ h => h) (Or.inl ⟨by rfl, ?_⟩) HS0.2 ?_
                        rotate_left
                        (intro w' hSw'; have ⟨_, _, _⟩ := hSw'; go_simp; try with_reducible rfl)
                        try simp only [Act.put, List.setIfInBounds_toArray, List.set_cons_zero, List.set_cons_succ, List.getElem_toArray, List.getElem_cons_zero, List.getElem_cons_succ]
                        refine wpAnyG_ready (rs := [5, 7]) (by kernel_rfl) (by simp) ?_
                        refine AllG.cons rfl (ph' := false) (by kernel_rfl) (fun K hK => ?_) (AllG.cons rfl (ph' := false) (by kernel_rfl) (fun K hK => ?_) AllG.nil)
                        · have h5 := HS0.1
                          go_simp
                          refine hK.out _ _ (fun _ => HS0.2) ?_
                          clear hK K
                          try simp only [Act.put, List.setIfInBounds_toArray, List.set_cons_zero, List.set_cons_succ, List.getElem_toArray, List.getElem_cons_zero, List.getElem_cons_succ]
                          refine wpAnyG_ready (rs := [7]) (by kernel_rfl) (by simp) ?_
                          refine AllG.cons rfl (ph' := false) (by kernel_rfl) (fun K hK => ?_) AllG.nil
                          go_simp
                          refine hK.out _ _ (fun _ => HS1.2) ?_
                          clear hK K
                          try simp only [Act.put, List.setIfInBounds_toArray, List.set_cons_zero, List.set_cons_succ, List.getElem_toArray, List.getElem_cons_zero, List.getElem_cons_succ]
                          refine wpAnyG_ready (rs := [8]) (by kernel_rfl) (by simp) ?_
                          refine AllG.cons rfl (ph' := false) (by kernel_rfl) (fun K hK => ?_) AllG.nil
                          refine step_append_run rfl (.tmp 156) (.tmp 158) #[28, 28] rfl _ _ _ _ rfl rfl hrunI ?_
                          refine hK.out _ _ (fun _ => HS2.2) ?_
                          clear hK K
                          try simp only [Act.put, List.setIfInBounds_toArray, List.set_cons_zero, List.set_cons_succ, List.getElem_toArray, List.getElem_cons_zero, List.getElem_cons_succ]
                          refine wpAnyG_take (i := 15) (v := ?_) rfl (by kernel_rfl) (by kernel_rfl) (by kernel_rfl) (by kernel_rfl) (fun _ _ _ h => h) (Or.inl ⟨by rfl, ?_⟩) HS2.2 ?_
                          rotate_left
                          (intro w' hSw'; have ⟨_, _, _⟩ := hSw'; go_simp; try with_reducible rfl)
                          try simp only [Act.put, List.setIfInBounds_toArray, List.set_cons_zero, List.set_cons_succ, List.getElem_toArray, List.getElem_cons_zero, List.getElem_cons_succ]
                          refine wpAnyG_take (i := 16) (v := ?_) rfl (by kernel_rfl) (by kernel_rfl) (by kernel_rfl) (by kernel_rfl) (fun _ _ _ h => h) (Or.inl ⟨by rfl, ?_⟩) HS2.2 ?_
                          rotate_left
                          (intro w' hSw'; have ⟨_, _, _⟩ := hSw'; go_simp; try with_reducible rfl)
                          try simp only [Act.put, List.setIfInBounds_toArray, List.set_cons_zero, List.set_cons_succ, List.getElem_toArray, List.getElem_cons_zero, List.getElem_cons_succ]
                          refine wpAnyG_take (i := 17) (v := ?_) rfl (by kernel_rfl) (by kernel_rfl) (by kernel_rfl) (by kernel_rfl) (fun _ _ _ h => h) (Or.inl ⟨by rfl, ?_⟩) HS2.2 ?_
                          rotate_left
                          (intro w' hSw'; have ⟨_, _, _⟩ := hSw'; go_simp; try with_reducible rfl)
                          try simp only [Act.put, List.setIfInBounds_toArray, List.set_cons_zero, List.set_cons_succ, List.getElem_toArray, List.getElem_cons_zero, List.getElem_cons_succ]
                          refine wpAnyG_take (i := 18) (v := ?_) rfl (by kernel_rfl) (by kernel_rfl) (by kernel_rfl) (by kernel_rfl) (fun _ _ _ h => h) (Or.inl ⟨by rfl, ?_⟩) HS2.2 ?_
                          rotate_left
                          (intro w' hSw'; have ⟨_, _, _⟩ := hSw'; go_simp; try with_reducible rfl)
                          try simp only [Act.put, List.setIfInBounds_toArray, List.set_cons_zero, List.set_cons_succ, List.getElem_toArray, List.getElem_cons_zero, List.getElem_cons_succ]
                          refine wpAnyG_take (i := 19) (v := ?_) rfl (by kernel_rfl) (by kernel_rfl) (by kernel_rfl) (by kernel_rfl) (fun _ _ _ h => h) (Or.inl ⟨by rfl, ?_⟩) HS2.2 ?_
                          rotate_left
                          (intro w' hSw'; have ⟨_, _, _⟩ := hSw'; go_simp; try with_reducible rfl)
                          try simp only [Act.put, List.setIfInBounds_toArray, List.set_cons_zero, List.set_cons_succ, List.getElem_toArray, List.getElem_cons_zero, List.getElem_cons_succ]
                          refine wpAnyG_ready (rs := [20]) (by kernel_rfl) (by simp) ?_
                          refine AllG.cons rfl (ph' := false) (by kernel_rfl) (fun K hK => ?_) AllG.nil
                          go_simp
                          refine hK.out _ _ (fun _ => HS3.2) ?_
                          clear hK K
                          try simp only [Act.put, List.setIfInBounds_toArray, List.set_cons_zero, List.set_cons_succ, List.getElem_toArray, List.getElem_cons_zero, List.getElem_cons_succ]
                          refine wpAnyG_ready (rs := [21]) (by kernel_rfl) (by simp) ?_
                          refine AllG.cons rfl (ph' := false) (by kernel_rfl) (fun K hK => ?_) AllG.nil
                          refine step_append_run rfl (.tmp 163) (.tmp 171) #[35, 35] rfl _ _ _ _ rfl rfl hrunT ?_
                          refine hK.out _ _ (fun _ => HS4.2) ?_
                          clear hK K
                          try simp only [Act.put, List.setIfInBounds_toArray, List.set_cons_zero, List.set_cons_succ, List.getElem_toArray, List.getElem_cons_zero, List.getElem_cons_succ]
                          refine wpAnyG_ready (rs := [22]) (by kernel_rfl) (by simp) ?_
                          refine AllG.cons rfl (ph' := false) (by kernel_rfl) (fun K hK => ?_) AllG.nil
                          go_simp
                          refine hK.out _ _ (fun _ => HS4.2) ?_
                          clear hK K
                          try simp only [Act.put, List.setIfInBounds_toArray, List.set_cons_zero, List.set_cons_succ, List.getElem_toArray, List.getElem_cons_zero, List.getElem_cons_succ]
                          refine wpAnyG_ready (rs := [23]) (by kernel_rfl) (by simp) ?_
                          refine AllG.cons rfl (ph' := false) (by kernel_rfl) (fun K hK => ?_) AllG.nil
                          go_simp
                          refine hK.out _ _ (fun _ => HS4.2) ?_
                          clear hK K
                          try simp only [Act.put, List.setIfInBounds_toArray, List.set_cons_zero, List.set_cons_succ, List.getElem_toArray, List.getElem_cons_zero, List.getElem_cons_succ]
                          refine wpAnyG_ready (rs := [24]) (by kernel_rfl) (by simp) ?_
                          refine AllG.cons rfl (ph' := false) (by kernel_rfl) (fun K hK => ?_) AllG.nil
                          go_simp
                          refine hK.out _ _ (fun _ => HS5.2) ?_
                          clear hK K
                          try simp only [Act.put, List.setIfInBounds_toArray, List.set_cons_zero, List.set_cons_succ, List.getElem_toArray, List.getElem_cons_zero, List.getElem_cons_succ]
                          refine wpAnyG_ready (rs := [25]) (by kernel_rfl) (by simp) ?_
                          refine AllG.cons rfl (ph' := false) (by kernel_rfl) (fun K hK => ?_) AllG.nil
                          go_simp
                          refine hK.out _ _ (fun _ => HS5.2) ?_
                          clear hK K
                          try simp only [Act.put, List.setIfInBounds_toArray, List.set_cons_zero, List.set_cons_succ, List.getElem_toArray, List.getElem_cons_zero, List.getElem_cons_succ]
                          refine wpAnyG_ready (rs := [26]) (by kernel_rfl) (by simp) ?_
                          refine AllG.cons rfl (ph' := false) (by kernel_rfl) (fun K hK => ?_) AllG.nil
                          go_simp
                          refine hK.out _ _ (fun _ => HS5.2) ?_
                          clear hK K
                          try simp only [Act.put, List.setIfInBounds_toArray, List.set_cons_zero, List.set_cons_succ, List.getElem_toArray, List.getElem_cons_zero, List.getElem_cons_succ]
                          refine wpAnyG_ready (rs := [27]) (by kernel_rfl) (by simp) ?_
                          refine AllG.cons rfl (ph' := true) (by kernel_rfl) (fun K hK => ?_) AllG.nil
                          go_simp
                          refine hK.out _ _ (fun h => by cases h) ?_
                          clear hK K
                          try simp only [Act.put, List.setIfInBounds_toArray, List.set_cons_zero, List.set_cons_succ, List.getElem_toArray, List.getElem_cons_zero, List.getElem_cons_succ]
                          refine wpAnyG_done (by kernel_rfl) ?_ _
                          clear HS0 HS1 HS2 HS3 HS4 HS5 hrunI hrunT hcl hfr hcl3 hfr3 h5
                          go_wp2_with fail
                          go_roundg (G - 1)
                          case measure => omega
                          case rel => exact ⟨rfl, k + 1, _, _, _, _, _, _, F8, by omega, by omega, by omega, by go_num, HEND.out.1, HHN, HRN, HKN⟩
                        · have h5 : (wx.alloc (.cells #[.int .u64 x] 37)).drew.cell? ⟨Hb, 2, none⟩ = some (.slice ia st.ids.length ic) := HS1.1
                          go_simp
                          refine hK.out _ _ (fun _ => HS1.2) ?_
                          clear hK K
                          try simp only [Act.put, List.setIfInBounds_toArray, List.set_cons_zero, List.set_cons_succ, List.getElem_toArray, List.getElem_cons_zero, List.getElem_cons_succ]
                          refine wpAnyG_ready (rs := [5]) (by kernel_rfl) (by simp) ?_
                          refine AllG.cons rfl (ph' := false) (by kernel_rfl) (fun K hK => ?_) AllG.nil
                          go_simp
                          refine hK.out _ _ (fun _ => HS1.2) ?_
                          clear hK K
                          try simp only [Act.put, List.setIfInBounds_toArray, List.set_cons_zero, List.set_cons_succ, List.getElem_toArray, List.getElem_cons_zero, List.getElem_cons_succ]
                          refine wpAnyG_ready (rs := [8]) (by kernel_rfl) (by simp) ?_
                          refine AllG.cons rfl (ph' := false) (by kernel_rfl) (fun K hK => ?_) AllG.nil
                          refine step_append_run rfl (.tmp 156) (.tmp 158) #[28, 28] rfl _ _ _ _ rfl rfl hrunI ?_
                          refine hK.out _ _ (fun _ => HS2.2) ?_
                          clear hK K
                          try simp only [Act.put, List.setIfInBounds_toArray, List.set_cons_zero, List.set_cons_succ, List.getElem_toArray, List.getElem_cons_zero, List.getElem_cons_succ]
                          refine wpAnyG_take (i := 15) (v := ?_) rfl (by kernel_rfl) (by kernel_rfl) (by kernel_rfl) (by kernel_rfl) (fun _ _ _ h => h) (Or.inl ⟨by rfl, ?_⟩) HS2.2 ?_
                          rotate_left
                          (intro w' hSw'; have ⟨_, _, _⟩ := hSw'; go_simp; try with_reducible rfl)
                          try simp only [Act.put, List.setIfInBounds_toArray, List.set_cons_zero, List.set_cons_succ, List.getElem_toArray, List.getElem_cons_zero, List.getElem_cons_succ]
                          refine wpAnyG_take (i := 16) (v := ?_) rfl (by kernel_rfl) (by kernel_rfl) (by kernel_rfl) (by kernel_rfl) (fun _ _ _ h => h) (Or.inl ⟨by rfl, ?_⟩) HS2.2 ?_
                          rotate_left
                          (intro w' hSw'; have ⟨_, _, _⟩ := hSw'; go_simp; try with_reducible rfl)
                          try simp only [Act.put, List.setIfInBounds_toArray, List.set_cons_zero, List.set_cons_succ, List.getElem_toArray, List.getElem_cons_zero, List.getElem_cons_succ]
                          refine wpAnyG_take (i := 17) (v := ?_) rfl (by kernel_rfl) (by kernel_rfl) (by kernel_rfl) (by kernel_rfl) (fun _ _ _ h => h) (Or.inl ⟨by rfl, ?_⟩) HS2.2 ?_
                          rotate_left
                          (intro w' hSw'; have ⟨_, _, _⟩ := hSw'; go_simp; try with_reducible rfl)
                          try simp only [Act.put, List.setIfInBounds_toArray, List.set_cons_zero, List.set_cons_succ, List.getElem_toArray, List.getElem_cons_zero, List.getElem_cons_succ]
                          refine wpAnyG_take (i := 18) (v := ?_) rfl (by kernel_rfl) (by kernel_rfl) (by kernel_rfl) (by kernel_rfl) (fun _ _ _ h => h) (Or.inl ⟨by rfl, ?_⟩) HS2.2 ?_
                          rotate_left
                          (intro w' hSw'; have ⟨_, _, _⟩ := hSw'; go_simp; try with_reducible rfl)
                          try simp only [Act.put, List.setIfInBounds_toArray, List.set_cons_zero, List.set_cons_succ, List.getElem_toArray, List.getElem_cons_zero, List.getElem_cons_succ]
                          refine wpAnyG_take (i := 19) (v := ?_) rfl (by kernel_rfl) (by kernel_rfl) (by kernel_rfl) (by kernel_rfl) (fun _ _ _ h => h) (Or.inl ⟨by rfl, ?_⟩) HS2.2 ?_
                          rotate_left
                          (intro w' hSw'; have ⟨_, _, _⟩ := hSw'; go_simp; try with_reducible rfl)
                          try simp only [Act.put, List.setIfInBounds_toArray, List.set_cons_zero, List.set_cons_succ, List.getElem_toArray, List.getElem_cons_zero, List.getElem_cons_succ]
                          refine wpAnyG_ready (rs := [20]) (by kernel_rfl) (by simp) ?_
                          refine AllG.cons rfl (ph' := false) (by kernel_rfl) (fun K hK => ?_) AllG.nil
                          go_simp
                          refine hK.out _ _ (fun _ => HS3.2) ?_
                          clear hK K
                          try simp only [Act.put, List.setIfInBounds_toArray, List.set_cons_zero, List.set_cons_succ, List.getElem_toArray, List.getElem_cons_zero, List.getElem_cons_succ]
                          refine wpAnyG_ready (rs := [21]) (by kernel_rfl) (by simp) ?_
                          refine AllG.cons rfl (ph' := false) (by kernel_rfl) (fun K hK => ?_) AllG.nil
                          refine step_append_run rfl (.tmp 163) (.tmp 171) #[35, 35] rfl _ _ _ _ rfl rfl hrunT ?_
                          refine hK.out _ _ (fun _ => HS4.2) ?_
                          clear hK K
                          try simp only [Act.put, List.setIfInBounds_toArray, List.set_cons_zero, List.set_cons_succ, List.getElem_toArray, List.getElem_cons_zero, List.getElem_cons_succ]
                          refine wpAnyG_ready (rs := [22]) (by kernel_rfl) (by simp) ?_
                          refine AllG.cons rfl (ph' := false) (by kernel_rfl) (fun K hK => ?_) AllG.nil
                          go_simp
                          refine hK.out _ _ (fun _ => HS4.2) ?_
                          clear hK K
                          try simp only [Act.put, List.setIfInBounds_toArray, List.set_cons_zero, List.set_cons_succ, List.getElem_toArray, List.getElem_cons_zero, List.getElem_cons_succ]
                          refine wpAnyG_ready (rs := [23]) (by kernel_rfl) (by simp) ?_
                          refine AllG.cons rfl (ph' := false) (by kernel_rfl) (fun K hK => ?_) AllG.nil
                          go_simp
                          refine hK.out _ _ (fun _ => HS4.2) ?_
                          clear hK K
                          try simp only [Act.put, List.setIfInBounds_toArray, List.set_cons_zero, List.set_cons_succ, List.getElem_toArray, List.getElem_cons_zero, List.getElem_cons_succ]
                          refine wpAnyG_ready (rs := [24]) (by kernel_rfl) (by simp) ?_
                          refine AllG.cons rfl (ph' := false) (by kernel_rfl) (fun K hK => ?_) AllG.nil
                          go_simp
                          refine hK.out _ _ (fun _ => HS5.2) ?_
                          clear hK K
                          try simp only [Act.put, List.setIfInBounds_toArray, List.set_cons_zero, List.set_cons_succ, List.getElem_toArray, List.getElem_cons_zero, List.getElem_cons_succ]
                          refine wpAnyG_ready (rs := [25]) (by kernel_rfl) (by simp) ?_
                          refine AllG.cons rfl (ph' := false) (by kernel_rfl) (fun K hK => ?_) AllG.nil
                          go_simp
                          refine hK.out _ _ (fun _ => HS5.2) ?_
                          clear hK K
                          try simp only [Act.put, List.setIfInBounds_toArray, List.set_cons_zero, List.set_cons_succ, List.getElem_toArray, List.getElem_cons_zero, List.getElem_cons_succ]
                          refine wpAnyG_ready (rs := [26]) (by kernel_rfl) (by simp) ?_
                          refine AllG.cons rfl (ph' := false) (by kernel_rfl) (fun K hK => ?_) AllG.nil
                          go_simp
                          refine hK.out _ _ (fun _ => HS5.2) ?_
                          clear hK K
                          try simp only [Act.put, List.setIfInBounds_toArray, List.set_cons_zero, List.set_cons_succ, List.getElem_toArray, List.getElem_cons_zero, List.getElem_cons_succ]
                          refine wpAnyG_ready (rs := [27]) (by kernel_rfl) (by simp) ?_
                          refine AllG.cons rfl (ph' := true) (by kernel_rfl) (fun K hK => ?_) AllG.nil
                          go_simp
                          refine hK.out _ _ (fun h => by cases h) ?_
                          clear hK K
                          try simp only [Act.put, List.setIfInBounds_toArray, List.set_cons_zero, List.set_cons_succ, List.getElem_toArray, List.getElem_cons_zero, List.getElem_cons_succ]
                          refine wpAnyG_done (by kernel_rfl) ?_ _
                          clear HS0 HS1 HS2 HS3 HS4 HS5 hrunI hrunT hcl hfr hcl3 hfr3 h5
                          go_wp2_with fail
                          go_roundg (G - 1)
                          case measure => omega
                          case rel => exact ⟨rfl, k + 1, _, _, _, _, _, _, F8, by omega, by omega, by omega, by go_num, HEND.out.1, HHN, HRN, HKN⟩
                      · rw [hbare] at HS0 HS1 HS2 HS3 HS4 HS5 hyy
                        rw [Bool.false_and] at hyy
                        clear hbare
                        subst hyy
                        go_wp2_with fail
                        refine wp_region_phase (fun w' => w'.cell? ⟨Hb, 3, none⟩ = some (.slice ta st.bare.length tc) ∧ w'.cell? ⟨wo.heap.size, 4, none⟩ = some (.bool false) ∧ w'.cell? ⟨wo.heap.size, 2, none⟩ = some (.bool b.blob)) (fun i => i == 27) (by kernel_rfl) HS0.2 (fun _ => ?_)
                        refine wpAnyG_take (i := 0) (v := ?_) rfl (by kernel_rfl) (by kernel_rfl) (by kernel_rfl) (by kernel_rfl) (fun _ _ _ h => h) (Or.inl ⟨by rfl, ?_⟩) HS0.2 ?_
                        rotate_left
                        (intro w' hSw'; have ⟨_, _, _⟩ := hSw'; go_simp; try with_reducible rfl)
                        try simp only [Act.put, List.setIfInBounds_toArray, List.set_cons_zero, List.set_cons_succ, List.getElem_toArray, List.getElem_cons_zero, List.getElem_cons_succ]
                        refine wpAnyG_takeU (i := 1) (v := ?_) rfl (by kernel_rfl) (by kernel_rfl) (by kernel_rfl) (by kernel_rfl) (fun _ _ _ h => h) (Or.inl ⟨by rfl, ?_⟩) (fun _ => HS0.2) ?_
                        rotate_left
                        (intro w' hSw'; go_simp; try with_reducible rfl)
                        try simp only [Act.put, List.setIfInBounds_toArray, List.set_cons_zero, List.set_cons_succ, List.getElem_toArray, List.getElem_cons_zero, List.getElem_cons_succ]
                        refine wpAnyG_take (i := 2) (v := ?_) rfl (by kernel_rfl) (by kernel_rfl) (by kernel_rfl) (by kernel_rfl) (fun _ _ _ h => h) (Or.inl ⟨by rfl, ?_⟩) HS0.2 ?_
                        rotate_left
                        (intro w' hSw'; have ⟨_, _, _⟩ := hSw'; go_simp; try with_reducible rfl)
                        try simp only [Act.put, List.setIfInBounds_toArray, List.set_cons_zero, List.set_cons_succ, List.getElem_toArray, List.getElem_cons_zero, List.getElem_cons_succ]
                        refine wpAnyG_take (i := 3) (v := ?_) rfl (by kernel_rfl) (by kernel_rfl) (by kernel_rfl) (by kernel_rfl) (fun _ _ _ h => h) (Or.inl ⟨by rfl, ?_⟩) HS0.2 ?_
                        rotate_left
                        (intro w' hSw'; have ⟨_, _, _⟩ := hSw'; go_simp; try with_reducible rfl)
                        try simp only [Act.put, List.setIfInBounds_toArray, List.set_cons_zero, List.set_cons_succ, List.getElem_toArray, List.getElem_cons_zero, List.getElem_cons_succ]
                        refine wpAnyG_take (i := 4) (v := ?_) rfl (by kernel_rfl) (by kernel_rfl) (by kernel_rfl) (by kernel_rfl) (fun _ _ _ h => h) (Or.inl ⟨by rfl, ?_⟩) HS0.2 ?_
                        rotate_left
                        (intro w' hSw'; have ⟨_, _, _⟩ := hSw'; go_simp; try with_reducible rfl)
                        try simp only [Act.put, List.setIfInBounds_toArray, List.set_cons_zero, List.set_cons_succ, List.getElem_toArray, List.getElem_cons_zero, List.getElem_cons_succ]
                        refine wpAnyG_take (i := 6) (v := ?_) rfl (by kernel_rfl) (by kernel_rfl) (by kernel_rfl) (by kernel_rfl) (fun _ _ _ h => h) (Or.inl ⟨by rfl, ?_⟩) HS0.2 ?_
                        rotate_left
                        (intro w' hSw'; have ⟨_, _, _⟩ := hSw'; go_simp; try with_reducible rfl)
                        try simp only [Act.put, List.setIfInBounds_toArray, List.set_cons_zero, List.set_cons_succ, List.getElem_toArray, List.getElem_cons_zero, List.getElem_cons_succ]
                        refine wpAnyG_take (i := 9) (v := ?_) rfl (by kernel_rfl) (by kernel_rfl) (by kernel_rfl) (by kernel_rfl) (fun _ _ _ h => h) (Or.inl ⟨by rfl, ?_⟩) HS0.2 ?_
                        rotate_left
                        (intro w' hSw'; have ⟨_, _, _⟩ := hSw'; go_simp; try with_reducible rfl)
                        try simp only [Act.put, List.setIfInBounds_toArray, List.set_cons_zero, List.set_cons_succ, List.getElem_toArray, List.getElem_cons_zero, List.getElem_cons_succ]
                        refine wpAnyG_take (i := 10) (v := ?_) rfl (by kernel_rfl) (by kernel_rfl) (by kernel_rfl) (by kernel_rfl) (fun _ _ _ h => h) (Or.inl ⟨by rfl, ?_⟩) HS0.2 ?_
                        rotate_left
                        (intro w' hSw'; have ⟨_, _, _⟩ := hSw'; go_simp; try with_reducible rfl)
                        try simp only [Act.put, List.setIfInBounds_toArray, List.set_cons_zero, List.set_cons_succ, List.getElem_toArray, List.getElem_cons_zero, List.getElem_cons_succ]
                        refine wpAnyG_take (i := 11) (v := ?_) rfl (by kernel_rfl) (by kernel_rfl) (by kernel_rfl) (by kernel_rfl) (fun _ _ _ h => h) (Or.inl ⟨by rfl, ?_⟩) HS0.2 ?_
                        rotate_left
                        (intro w' hSw'; have ⟨_, _, _⟩ := hSw'; go_simp; try with_reducible rfl)
                        try simp only [Act.put, List.setIfInBounds_toArray, List.set_cons_zero, List.set_cons_succ, List.getElem_toArray, List.getElem_cons_zero, List.getElem_cons_succ]
                        refine wpAnyG_take (i := 12) (v := ?_) rfl (by kernel_rfl) (by kernel_rfl) (by kernel_rfl) (by kernel_rfl) (fun _ _ _ h => h) (Or.inl ⟨by rfl, ?_⟩) HS0.2 ?_
                        rotate_left
                        (intro w' hSw'; have ⟨_, _, _⟩ := hSw'; go_simp; try with_reducible rfl)
                        try simp only [Act.put, List.setIfInBounds_toArray, List.set_cons_zero, List.set_cons_succ, List.getElem_toArray, List.getElem_cons_zero, List.getElem_cons_succ]
                        refine wpAnyG_take (i := 13) (v := ?_) rfl (by kernel_rfl) (by kernel_rfl) (by kernel_rfl) (by kernel_rfl) (fun _ _ _ h => h) (Or.inl ⟨by rfl, ?_⟩) HS0.2 ?_
                        rotate_left
                        (intro w' hSw'; have ⟨_, _, _⟩ := hSw'; go_simp; try with_reducible rfl)
                        try simp only [Act.put, List.setIfInBounds_toArray, List.set_cons_zero, List.set_cons_succ, List.getElem_toArray, List.getElem_cons_zero, List.getElem_cons_succ]
                        refine wpAnyG_take (i := 14) (v := ?_) rfl (by kernel_rfl) (by kernel_rfl) (by kernel_rfl) (by kernel_rfl) (fun _ _ _ h => h) (Or.inl ⟨by rfl, ?_⟩) HS0.2 ?_
                        rotate_left
                        (intro w' hSw'; have ⟨_, _, _⟩ := hSw'; go_simp; try with_reducible rfl)
                        try simp only [Act.put, List.setIfInBounds_toArray, List.set_cons_zero, List.set_cons_succ, List.getElem_toArray, List.getElem_cons_zero, List.getElem_cons_succ]
                        refine wpAnyG_ready (rs := [5, 7]) (by kernel_rfl) (by simp) ?_
                        refine AllG.cons rfl (ph' := false) (by kernel_rfl) (fun K hK => ?_) (AllG.cons rfl (ph' := false) (by kernel_rfl) (fun K hK => ?_) AllG.nil)
                        · have h5 := HS0.1
                          go_simp
                          refine hK.out _ _ (fun _ => HS0.2) ?_
                          clear hK K
                          try simp only [Act.put, List.setIfInBounds_toArray, List.set_cons_zero, List.set_cons_succ, List.getElem_toArray, List.getElem_cons_zero, List.getElem_cons_succ]
                          refine wpAnyG_ready (rs := [7]) (by kernel_rfl) (by simp) ?_
                          refine AllG.cons rfl (ph' := false) (by kernel_rfl) (fun K hK => ?_) AllG.nil
                          go_simp
                          refine hK.out _ _ (fun _ => HS1.2) ?_
                          clear hK K
                          try simp only [Act.put, List.setIfInBounds_toArray, List.set_cons_zero, List.set_cons_succ, List.getElem_toArray, List.getElem_cons_zero, List.getElem_cons_succ]
                          refine wpAnyG_ready (rs := [8]) (by kernel_rfl) (by simp) ?_
                          refine AllG.cons rfl (ph' := false) (by kernel_rfl) (fun K hK => ?_) AllG.nil
                          refine step_append_run rfl (.tmp 156) (.tmp 158) #[28, 28] rfl _ _ _ _ rfl rfl hrunI ?_
                          refine hK.out _ _ (fun _ => HS2.2) ?_
                          clear hK K
                          try simp only [Act.put, List.setIfInBounds_toArray, List.set_cons_zero, List.set_cons_succ, List.getElem_toArray, List.getElem_cons_zero, List.getElem_cons_succ]
                          refine wpAnyG_take (i := 15) (v := ?_) rfl (by kernel_rfl) (by kernel_rfl) (by kernel_rfl) (by kernel_rfl) (fun _ _ _ h => h) (Or.inl ⟨by rfl, ?_⟩) HS2.2 ?_
                          rotate_left
                          (intro w' hSw'; have ⟨_, _, _⟩ := hSw'; go_simp; try with_reducible rfl)
                          try simp only [Act.put, List.setIfInBounds_toArray, List.set_cons_zero, List.set_cons_succ, List.getElem_toArray, List.getElem_cons_zero, List.getElem_cons_succ]
                          refine wpAnyG_take (i := 16) (v := undef) rfl (by kernel_rfl) (by kernel_rfl) (by kernel_rfl) (by kernel_rfl) (fun _ _ _ h => h) (Or.inr ⟨by rfl, rfl⟩) HS2.2 ?_
                          try simp only [Act.put, List.setIfInBounds_toArray, List.set_cons_zero, List.set_cons_succ, List.getElem_toArray, List.getElem_cons_zero, List.getElem_cons_succ]
                          refine wpAnyG_take (i := 17) (v := undef) rfl (by kernel_rfl) (by kernel_rfl) (by kernel_rfl) (by kernel_rfl) (fun _ _ _ h => h) (Or.inr ⟨by rfl, rfl⟩) HS2.2 ?_
                          try simp only [Act.put, List.setIfInBounds_toArray, List.set_cons_zero, List.set_cons_succ, List.getElem_toArray, List.getElem_cons_zero, List.getElem_cons_succ]
                          refine wpAnyG_take (i := 18) (v := undef) rfl (by kernel_rfl) (by kernel_rfl) (by kernel_rfl) (by kernel_rfl) (fun _ _ _ h => h) (Or.inr ⟨by rfl, rfl⟩) HS2.2 ?_
                          try simp only [Act.put, List.setIfInBounds_toArray, List.set_cons_zero, List.set_cons_succ, List.getElem_toArray, List.getElem_cons_zero, List.getElem_cons_succ]
                          refine wpAnyG_take (i := 19) (v := ?_) rfl (by kernel_rfl) (by kernel_rfl) (by kernel_rfl) (by kernel_rfl) (fun _ _ _ h => h) (Or.inl ⟨by rfl, ?_⟩) HS2.2 ?_
                          rotate_left
                          (intro w' hSw'; have ⟨_, _, _⟩ := hSw'; go_simp; try with_reducible rfl)
                          try simp only [Act.put, List.setIfInBounds_toArray, List.set_cons_zero, List.set_cons_succ, List.getElem_toArray, List.getElem_cons_zero, List.getElem_cons_succ]
                          refine wpAnyG_ready (rs := [20]) (by kernel_rfl) (by simp) ?_
                          refine AllG.cons rfl (ph' := false) (by kernel_rfl) (fun K hK => ?_) AllG.nil
                          go_simp
                          refine hK.out _ _ (fun _ => HS3.2) ?_
                          clear hK K
                          try simp only [Act.put, List.setIfInBounds_toArray, List.set_cons_zero, List.set_cons_succ, List.getElem_toArray, List.getElem_cons_zero, List.getElem_cons_succ]
                          refine wpAnyG_ready (rs := [21]) (by kernel_rfl) (by simp) ?_
                          refine AllG.cons rfl (ph' := false) (by kernel_rfl) (fun K hK => ?_) AllG.nil
                          refine step_append_run rfl (.tmp 163) (.tmp 171) #[35, 35] rfl _ _ _ _ rfl rfl hrunT ?_
                          refine hK.out _ _ (fun _ => HS4.2) ?_
                          clear hK K
                          try simp only [Act.put, List.setIfInBounds_toArray, List.set_cons_zero, List.set_cons_succ, List.getElem_toArray, List.getElem_cons_zero, List.getElem_cons_succ]
                          refine wpAnyG_ready (rs := [22]) (by kernel_rfl) (by simp) ?_
                          refine AllG.cons rfl (ph' := false) (by kernel_rfl) (fun K hK => ?_) AllG.nil
                          go_simp
                          refine hK.out _ _ (fun _ => HS4.2) ?_
                          clear hK K
                          try simp only [Act.put, List.setIfInBounds_toArray, List.set_cons_zero, List.set_cons_succ, List.getElem_toArray, List.getElem_cons_zero, List.getElem_cons_succ]
                          refine wpAnyG_ready (rs := [23]) (by kernel_rfl) (by simp) ?_
                          refine AllG.cons rfl (ph' := false) (by kernel_rfl) (fun K hK => ?_) AllG.nil
                          go_simp
                          refine hK.out _ _ (fun _ => HS4.2) ?_
                          clear hK K
                          try simp only [Act.put, List.setIfInBounds_toArray, List.set_cons_zero, List.set_cons_succ, List.getElem_toArray, List.getElem_cons_zero, List.getElem_cons_succ]
                          refine wpAnyG_ready (rs := [24]) (by kernel_rfl) (by simp) ?_
                          refine AllG.cons rfl (ph' := false) (by kernel_rfl) (fun K hK => ?_) AllG.nil
                          go_simp
                          refine hK.out _ _ (fun _ => HS5.2) ?_
                          clear hK K
                          try simp only [Act.put, List.setIfInBounds_toArray, List.set_cons_zero, List.set_cons_succ, List.getElem_toArray, List.getElem_cons_zero, List.getElem_cons_succ]
                          refine wpAnyG_ready (rs := [25]) (by kernel_rfl) (by simp) ?_
                          refine AllG.cons rfl (ph' := false) (by kernel_rfl) (fun K hK => ?_) AllG.nil
                          go_simp
                          refine hK.out _ _ (fun _ => HS5.2) ?_
                          clear hK K
                          try simp only [Act.put, List.setIfInBounds_toArray, List.set_cons_zero, List.set_cons_succ, List.getElem_toArray, List.getElem_cons_zero, List.getElem_cons_succ]
                          refine wpAnyG_ready (rs := [26]) (by kernel_rfl) (by simp) ?_
                          refine AllG.cons rfl (ph' := false) (by kernel_rfl) (fun K hK => ?_) AllG.nil
                          go_simp
                          refine hK.out _ _ (fun _ => HS5.2) ?_
                          clear hK K
                          try simp only [Act.put, List.setIfInBounds_toArray, List.set_cons_zero, List.set_cons_succ, List.getElem_toArray, List.getElem_cons_zero, List.getElem_cons_succ]
                          refine wpAnyG_ready (rs := [27]) (by kernel_rfl) (by simp) ?_
                          refine AllG.cons rfl (ph' := true) (by kernel_rfl) (fun K hK => ?_) AllG.nil
                          go_simp
                          refine hK.out _ _ (fun h => by cases h) ?_
                          clear hK K
                          try simp only [Act.put, List.setIfInBounds_toArray, List.set_cons_zero, List.set_cons_succ, List.getElem_toArray, List.getElem_cons_zero, List.getElem_cons_succ]
                          refine wpAnyG_done (by kernel_rfl) ?_ _
                          clear HS0 HS1 HS2 HS3 HS4 HS5 hrunI hrunT hcl hfr hcl3 hfr3 h5
                          go_wp2_with fail
                          go_roundg (G - 1)
                          case measure => omega
                          case rel => exact ⟨rfl, k + 1, _, _, _, _, _, _, F8, by omega, by omega, by omega, by go_num, HEND.out.1, HHN, HRN, HKN⟩
                        · have h5 : (wx.alloc (.cells #[.int .u64 x] 37)).drew.cell? ⟨Hb, 2, none⟩ = some (.slice ia st.ids.length ic) := HS1.1
                          go_simp
                          refine hK.out _ _ (fun _ => HS1.2) ?_
                          clear hK K
                          try simp only [Act.put, List.setIfInBounds_toArray, List.set_cons_zero, List.set_cons_succ, List.getElem_toArray, List.getElem_cons_zero, List.getElem_cons_succ]
                          refine wpAnyG_ready (rs := [5]) (by kernel_rfl) (by simp) ?_
                          refine AllG.cons rfl (ph' := false) (by kernel_rfl) (fun K hK => ?_) AllG.nil
                          go_simp
                          refine hK.out _ _ (fun _ => HS1.2) ?_
                          clear hK K
                          try simp only [Act.put, List.setIfInBounds_toArray, List.set_cons_zero, List.set_cons_succ, List.getElem_toArray, List.getElem_cons_zero, List.getElem_cons_succ]
                          refine wpAnyG_ready (rs := [8]) (by kernel_rfl) (by simp) ?_
                          refine AllG.cons rfl (ph' := false) (by kernel_rfl) (fun K hK => ?_) AllG.nil
                          refine step_append_run rfl (.tmp 156) (.tmp 158) #[28, 28] rfl _ _ _ _ rfl rfl hrunI ?_
                          refine hK.out _ _ (fun _ => HS2.2) ?_
                          clear hK K
                          try simp only [Act.put, List.setIfInBounds_toArray, List.set_cons_zero, List.set_cons_succ, List.getElem_toArray, List.getElem_cons_zero, List.getElem_cons_succ]
                          refine wpAnyG_take (i := 15) (v := ?_) rfl (by kernel_rfl) (by kernel_rfl) (by kernel_rfl) (by kernel_rfl) (fun _ _ _ h => h) (Or.inl ⟨by rfl, ?_⟩) HS2.2 ?_
                          rotate_left
                          (intro w' hSw'; have ⟨_, _, _⟩ := hSw'; go_simp; try with_reducible rfl)
                          try simp only [Act.put, List.setIfInBounds_toArray, List.set_cons_zero, List.set_cons_succ, List.getElem_toArray, List.getElem_cons_zero, List.getElem_cons_succ]
                          refine wpAnyG_take (i := 16) (v := undef) rfl (by kernel_rfl) (by kernel_rfl) (by kernel_rfl) (by kernel_rfl) (fun _ _ _ h => h) (Or.inr ⟨by rfl, rfl⟩) HS2.2 ?_
                          try simp only [Act.put, List.setIfInBounds_toArray, List.set_cons_zero, List.set_cons_succ, List.getElem_toArray, List.getElem_cons_zero, List.getElem_cons_succ]
                          refine wpAnyG_take (i := 17) (v := undef) rfl (by kernel_rfl) (by kernel_rfl) (by kernel_rfl) (by kernel_rfl) (fun _ _ _ h => h) (Or.inr ⟨by rfl, rfl⟩) HS2.2 ?_
                          try simp only [Act.put, List.setIfInBounds_toArray, List.set_cons_zero, List.set_cons_succ, List.getElem_toArray, List.getElem_cons_zero, List.getElem_cons_succ]
                          refine wpAnyG_take (i := 18) (v := undef) rfl (by kernel_rfl) (by kernel_rfl) (by kernel_rfl) (by kernel_rfl) (fun _ _ _ h => h) (Or.inr ⟨by rfl, rfl⟩) HS2.2 ?_
                          try simp only [Act.put, List.setIfInBounds_toArray, List.set_cons_zero, List.set_cons_succ, List.getElem_toArray, List.getElem_cons_zero, List.getElem_cons_succ]
                          refine wpAnyG_take (i := 19) (v := ?_) rfl (by kernel_rfl) (by kernel_rfl) (by kernel_rfl) (by kernel_rfl) (fun _ _ _ h => h) (Or.inl ⟨by rfl, ?_⟩) HS2.2 ?_
                          rotate_left
                          (intro w' hSw'; have ⟨_, _, _⟩ := hSw'; go_simp; try with_reducible rfl)
                          try simp only [Act.put, List.setIfInBounds_toArray, List.set_cons_zero, List.set_cons_succ, List.getElem_toArray, List.getElem_cons_zero, List.getElem_cons_succ]
                          refine wpAnyG_ready (rs := [20]) (by kernel_rfl) (by simp) ?_
                          refine AllG.cons rfl (ph' := false) (by kernel_rfl) (fun K hK => ?_) AllG.nil
                          go_simp
                          refine hK.out _ _ (fun _ => HS3.2) ?_
                          clear hK K
                          try simp only [Act.put, List.setIfInBounds_toArray, List.set_cons_zero, List.set_cons_succ, List.getElem_toArray, List.getElem_cons_zero, List.getElem_cons_succ]
                          refine wpAnyG_ready (rs := [21]) (by kernel_rfl) (by simp) ?_
                          refine AllG.cons rfl (ph' := false) (by kernel_rfl) (fun K hK => ?_) AllG.nil
                          refine step_append_run rfl (.tmp 163) (.tmp 171) #[35, 35] rfl _ _ _ _ rfl rfl hrunT ?_
                          refine hK.out _ _ (fun _ => HS4.2) ?_
                          clear hK K
                          try simp only [Act.put, List.setIfInBounds_toArray, List.set_cons_zero, List.set_cons_succ, List.getElem_toArray, List.getElem_cons_zero, List.getElem_cons_succ]
                          refine wpAnyG_ready (rs := [22]) (by kernel_rfl) (by simp) ?_
                          refine AllG.cons rfl (ph' := false) (by kernel_rfl) (fun K hK => ?_) AllG.nil
                          go_simp
                          refine hK.out _ _ (fun _ => HS4.2) ?_
                          clear hK K
                          try simp only [Act.put, List.setIfInBounds_toArray, List.set_cons_zero, List.set_cons_succ, List.getElem_toArray, List.getElem_cons_zero, List.getElem_cons_succ]
                          refine wpAnyG_ready (rs := [23]) (by kernel_rfl) (by simp) ?_
                          refine AllG.cons rfl (ph' := false) (by kernel_rfl) (fun K hK => ?_) AllG.nil
                          go_simp
                          refine hK.out _ _ (fun _ => HS4.2) ?_
                          clear hK K
                          try simp only [Act.put, List.setIfInBounds_toArray, List.set_cons_zero, List.set_cons_succ, List.getElem_toArray, List.getElem_cons_zero, List.getElem_cons_succ]
                          refine wpAnyG_ready (rs := [24]) (by kernel_rfl) (by simp) ?_
                          refine AllG.cons rfl (ph' := false) (by kernel_rfl) (fun K hK => ?_) AllG.nil
                          go_simp
                          refine hK.out _ _ (fun _ => HS5.2) ?_
                          clear hK K
                          try simp only [Act.put, List.setIfInBounds_toArray, List.set_cons_zero, List.set_cons_succ, List.getElem_toArray, List.getElem_cons_zero, List.getElem_cons_succ]
                          refine wpAnyG_ready (rs := [25]) (by kernel_rfl) (by simp) ?_
                          refine AllG.cons rfl (ph' := false) (by kernel_rfl) (fun K hK => ?_) AllG.nil
                          go_simp
                          refine hK.out _ _ (fun _ => HS5.2) ?_
                          clear hK K
                          try simp only [Act.put, List.setIfInBounds_toArray, List.set_cons_zero, List.set_cons_succ, List.getElem_toArray, List.getElem_cons_zero, List.getElem_cons_succ]
                          refine wpAnyG_ready (rs := [26]) (by kernel_rfl) (by simp) ?_
                          refine AllG.cons rfl (ph' := false) (by kernel_rfl) (fun K hK => ?_) AllG.nil
                          go_simp
                          refine hK.out _ _ (fun _ => HS5.2) ?_
                          clear hK K
                          try simp only [Act.put, List.setIfInBounds_toArray, List.set_cons_zero, List.set_cons_succ, List.getElem_toArray, List.getElem_cons_zero, List.getElem_cons_succ]
                          refine wpAnyG_ready (rs := [27]) (by kernel_rfl) (by simp) ?_
                          refine AllG.cons rfl (ph' := true) (by kernel_rfl) (fun K hK => ?_) AllG.nil
                          go_simp
                          refine hK.out _ _ (fun h => by cases h) ?_
                          clear hK K
                          try simp only [Act.put, List.setIfInBounds_toArray, List.set_cons_zero, List.set_cons_succ, List.getElem_toArray, List.getElem_cons_zero, List.getElem_cons_succ]
                          refine wpAnyG_done (by kernel_rfl) ?_ _
                          clear HS0 HS1 HS2 HS3 HS4 HS5 hrunI hrunT hcl hfr hcl3 hfr3 h5
                          go_wp2_with fail
                          go_roundg (G - 1)
                          case measure => omega
                          case rel => exact ⟨rfl, k + 1, _, _, _, _, _, _, F8, by omega, by omega, by omega, by go_num, HEND.out.1, HHN, HRN, HKN⟩
    · have HRS : R = some st := by
        have h1 := HR.out
        rw [List.drop_of_length_le (by rw [List.length_take]; have := HN1.out; omega)] at h1
        exact h1.symm
      subst HRS
      go_wp2_with fail
      go_ret2
      exact ⟨⟨Hb, s, F, m, nv, iv, bv, S, rfl, HB.out, HH.out.1⟩, HK.out⟩
end Go.Proofs.YtikacgiccllolaaGreat
