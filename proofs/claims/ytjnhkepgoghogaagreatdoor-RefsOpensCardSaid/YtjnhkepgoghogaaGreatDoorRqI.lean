/- name.is, Rest, In. -/
import Derived.Test.YtjnhkepgoghogaaGreatDoorRqH
namespace Go.Proofs.YtjnhkepgoghogaaGreatDoor
open Go.RowKit Go.ChangeMaps Go.MapKept
set_option linter.unusedSimpArgs false

def isGo : List ByteArray → Int
  | [] => 0
  | s :: l => if (pathOf s).1 ≠ 0 then (pathOf s).1 else isGo l
set_option maxRecDepth 100000 in
set_option maxHeartbeats 1000000 in
theorem nameIs_any (w : World) (g : Nat) (l : List ByteArray) (hl : l.length ≤ 1000) (hb : w.heap[g]? = some (.cells (l.map Value.string).toArray 9 (0, 0))) :
    Calls Tryz.prog 91 #[.slice (some ⟨g, 0, none⟩) l.length l.length] w fun e w' => e = .returned (.int .i64 (isGo l)) ∧ Kept (fun _ => False) w w' := by
  have HB := Lib.hid hb
  obtain ⟨n, hn⟩ : ∃ n, l.length = n := ⟨_, rfl⟩
  rw [hn] at hl ⊢
  have HN := Lib.hid hn
  clear hb hn
  go_enter Tryz.func91, Tryz.ntmps91
  go_wp2_with fail
  go_loopg [8] n (fun gg iv wr => ∃ k, k + gg = n ∧ iv = .int .i64 k ∧ Hid (isGo (l.drop k) = isGo l) ∧ Hid (Kept (fun _ => False) w wr))
  case atStart => exact ⟨0, by omega, rfl, Lib.hid rfl, Lib.hid (Kept.refl _ _)⟩
  case round =>
    obtain ⟨k, hkg, rfl, HE, HK⟩ := hrel
    rcases Nat.eq_zero_or_pos gk with rfl | hpos
    · obtain rfl : k = n := by omega
      have HF : Hid (isGo l = 0) := Lib.hid (by rw [← HE.out, List.drop_eq_nil_of_le (by rw [HN.out]; exact Nat.le_refl _)]; rfl)
      go_wp2_with fail
      go_ret
      rw [HF.out]
      exact ⟨rfl, HK.out⟩
    · have hlt : (k : Int) < (n : Int) := by omega
      have hkl : k < l.length := by rw [HN.out]; omega
      have HD : Hid (isGo l = if (pathOf l[k]).1 ≠ 0 then (pathOf l[k]).1 else isGo (l.drop (k + 1))) := Lib.hid (by rw [← HE.out, List.drop_eq_getElem_cons hkl]; rfl)
      have hc : wr.cell? ⟨g, k, none⟩ = some (.string l[k]) := by
        have h4 := (HK.out.block _ (Array.getElem?_eq_some_iff.1 HB.out).1 (fun f => f)).trans HB.out
        simp [World.cell?, h4, hkl]
      generalize l[k] = x at *
      have HP := Lib.hid (path_any x wr)
      obtain ⟨⟨C1, C2⟩, hC⟩ : ∃ C, pathOf x = C := ⟨_, rfl⟩
      rw [hC] at HP HD
      simp only at HP HD
      clear hC
      go_wp2_with fail
      refine HP.out.mono ?_
      rintro e w1 ⟨rfl, hk1⟩
      have HK1 : Hid (Kept (fun _ => False) w (w1.alloc (.cells #[.int .i64 C1, .int .i64 C2] 77))) := Lib.hid ((HK.out.trans hk1 (fun _ _ f => f)).alloc _)
      clear hk1
      by_cases hz : C1 = 0
      · subst hz
        have HN2 := Lib.hid (HD.out.symm)
        go_wp2_with fail
        go_roundg (gk - 1)
        case measure => omega
        case rel => exact ⟨k + 1, by omega, by go_num, Lib.hid (by have := HN2.out; simpa using this), HK1⟩
      · have hzb : (C1 == 0) = false := by simp [hz]
        go_wp2_with fail
        go_ret
        rw [HD.out, if_pos hz]
        exact ⟨rfl, HK1.out⟩

/-- Does a path lie in another one? -/
def inB (p q : ByteArray) : Bool :=
  decide (isGo [p, q] = 0) && (preB p q && (decide (q = ⟨#[]⟩) || (decide (p.extract q.size p.size = ⟨#[]⟩) || decide ((p.extract q.size p.size).get! 0 = 47))))
def restS (p q : ByteArray) : ByteArray :=
  if isGo [p, q] = 0 ∧ preB p q = true then (if q = ⟨#[]⟩ ∨ p.extract q.size p.size = ⟨#[]⟩ then p.extract q.size p.size else if (p.extract q.size p.size).get! 0 = 47 then (p.extract q.size p.size).extract 1 (p.extract q.size p.size).size else ⟨#[]⟩) else ⟨#[]⟩
set_option maxRecDepth 100000 in
set_option maxHeartbeats 1000000 in
theorem rest_any (w : World) (p q : ByteArray) :
    Calls Tryz.prog 83 #[.string p, .string q] w fun e w' => e = .returned (.tuple #[.string (restS p q), .bool (inB p q)]) ∧ Kept (fun _ => False) w w' := by
  obtain ⟨w1, hw1⟩ : ∃ W, w.alloc (.cells #[.string p, .string q] 9) = W := ⟨_, rfl⟩
  have hI := Lib.hid (nameIs_any w1 w.heap.size [p, q] (by simp) (by rw [← hw1]; exact heap_alloc_new _ _))
  have hk1 : Kept (fun _ => False) w w1 := by rw [← hw1]; exact (Kept.refl _ _).alloc _
  have HK1 := Lib.hid hk1
  have HC := Lib.hid (cutPrefix_any p q)
  clear hk1
  by_cases h1 : isGo [p, q] = 0
  · rw [h1] at hI
    by_cases h2 : preB p q = true
    · have hc : cutP p q = (p.extract q.size p.size, true) := if_pos h2
      rw [hc] at HC
      have HR : Hid (restS p q = (if q = ⟨#[]⟩ ∨ p.extract q.size p.size = ⟨#[]⟩ then p.extract q.size p.size else if (p.extract q.size p.size).get! 0 = 47 then (p.extract q.size p.size).extract 1 (p.extract q.size p.size).size else ⟨#[]⟩) ∧ inB p q = (decide (q = ⟨#[]⟩) || (decide (p.extract q.size p.size = ⟨#[]⟩) || decide ((p.extract q.size p.size).get! 0 = 47)))) := Lib.hid ⟨by unfold restS; rw [if_pos ⟨h1, h2⟩], by unfold inB; rw [h1, h2]; simp⟩
      obtain ⟨r, hr⟩ : ∃ r, p.extract q.size p.size = r := ⟨_, rfl⟩
      rw [hr] at HC HR
      clear hc h1 h2 hr
      go_enter Tryz.func83, Tryz.ntmps83
      go_wp2_with fail
      refine hI.out.mono ?_
      rintro e w2 ⟨rfl, hk2⟩
      have HK2 := Lib.hid (HK1.out.trans hk2 (fun _ _ f => f))
      clear hk2
      go_wp2_with fail
      refine (HC.out w2).mono ?_
      rintro e w3 ⟨rfl, rfl⟩
      by_cases hq : q = ⟨#[]⟩
      · have HR2 : Hid (restS p q = r ∧ inB p q = true) := Lib.hid ⟨by rw [HR.out.1, if_pos (Or.inl hq)], by rw [HR.out.2]; simp [hq]⟩
        have hqb : q.toList.isEmpty = true := by rw [hq]; kernel_rfl
        clear hq
        go_wp2_with fail
        go_ret2
        rw [HR2.out.1, HR2.out.2]
        exact ⟨rfl, HK2.out⟩
      · have hqb := ne_empty hq
        by_cases hr0 : r = ⟨#[]⟩
        · have HR2 : Hid (restS p q = r ∧ inB p q = true) := Lib.hid ⟨by rw [HR.out.1, if_pos (Or.inr hr0)], by rw [HR.out.2]; simp [hr0]⟩
          have hrb : r.toList.isEmpty = true := by rw [hr0]; kernel_rfl
          clear hr0
          go_wp2_with fail
          go_ret2
          rw [HR2.out.1, HR2.out.2]
          exact ⟨rfl, HK2.out⟩
        · have hrb := ne_empty hr0
          have hrs : 0 < r.size := by
            rcases Nat.eq_zero_or_pos r.size with h | h
            · exact absurd (ByteArray.ext (Array.eq_empty_of_size_eq_zero h)) hr0
            · exact h
          have hg : r.get! 0 = r[0] := by
            show r.data[0]! = _
            rw [getElem!_pos r.data 0 hrs]
            rfl
          have HR3 : Hid (restS p q = (if r[0] = 47 then r.extract 1 r.size else ⟨#[]⟩) ∧ inB p q = decide (r[0] = 47)) := Lib.hid ⟨by rw [HR.out.1, if_neg (by simp [hq, hr0]), hg], by rw [HR.out.2, hg]; simp [hq, hr0]⟩
          clear hg
          by_cases h47 : r[0] = 47
          · have HR2 : Hid (restS p q = r.extract 1 r.size ∧ inB p q = true) := Lib.hid ⟨by rw [HR3.out.1, if_pos h47], by rw [HR3.out.2, decide_eq_true h47]⟩
            have hb : ((r[0].toNat : Int) == 47) = true := by rw [h47]; rfl
            clear h47
            go_wp2_with fail
            go_ret2
            rw [HR2.out.1, HR2.out.2]
            exact ⟨rfl, HK2.out⟩
          · have HR2 : Hid (restS p q = ⟨#[]⟩ ∧ inB p q = false) := Lib.hid ⟨by rw [HR3.out.1, if_neg h47], by rw [HR3.out.2, decide_eq_false h47]⟩
            have hb : ((r[0].toNat : Int) == 47) = false := by
              rw [beq_eq_false_iff_ne]
              intro e
              apply h47
              apply UInt8.toNat_inj.1
              have : (47 : UInt8).toNat = 47 := rfl
              omega
            clear h47
            go_wp2_with fail
            go_ret2
            rw [HR2.out.1, HR2.out.2]
            exact ⟨rfl, HK2.out⟩
    · have hc : cutP p q = (p, false) := if_neg h2
      rw [hc] at HC
      have HR : Hid (restS p q = ⟨#[]⟩ ∧ inB p q = false) := Lib.hid ⟨by unfold restS; rw [if_neg (fun h => h2 h.2)], by unfold inB; rw [Bool.eq_false_iff.2 h2]; simp⟩
      clear hc h1 h2
      go_enter Tryz.func83, Tryz.ntmps83
      go_wp2_with fail
      refine hI.out.mono ?_
      rintro e w2 ⟨rfl, hk2⟩
      have HK2 := Lib.hid (HK1.out.trans hk2 (fun _ _ f => f))
      clear hk2
      go_wp2_with fail
      refine (HC.out w2).mono ?_
      rintro e w3 ⟨rfl, rfl⟩
      go_wp2_with fail
      go_ret2
      rw [HR.out.1, HR.out.2]
      exact ⟨rfl, HK2.out⟩
  · have HR : Hid (restS p q = ⟨#[]⟩ ∧ inB p q = false) := Lib.hid ⟨by unfold restS; rw [if_neg (fun h => h1 h.1)], by unfold inB; rw [decide_eq_false h1]; rfl⟩
    obtain ⟨z, hz⟩ : ∃ z, isGo [p, q] = z := ⟨_, rfl⟩
    rw [hz] at hI h1
    have hzb : (z == 0) = false := by simp [h1]
    clear hz
    go_enter Tryz.func83, Tryz.ntmps83
    go_wp2_with fail
    refine hI.out.mono ?_
    rintro e w2 ⟨rfl, hk2⟩
    have HK2 := Lib.hid (HK1.out.trans hk2 (fun _ _ f => f))
    clear hk2
    go_wp2_with fail
    go_ret2
    rw [HR.out.1, HR.out.2]
    exact ⟨rfl, HK2.out⟩
theorem nameIn_any (w : World) (p q : ByteArray) : Calls Tryz.prog 67 #[.string p, .string q] w fun e w' => e = .returned (.bool (inB p q)) ∧ Kept (fun _ => False) w w' := by
  go_enter Tryz.func67, Tryz.ntmps67
  go_wp2_with fail
  refine (rest_any w p q).mono ?_
  rintro e w1 ⟨rfl, hk⟩
  go_wp2_with fail
  go_ret
  exact ⟨rfl, hk⟩
end Go.Proofs.YtjnhkepgoghogaaGreatDoor

/- refs.Under. -/
namespace Go.Proofs.YtjnhkepgoghogaaGreatDoor
open Go.RowKit Go.Shelf
set_option linter.unusedSimpArgs false
attribute [local go_sem] Oper.semAt_some

def underL (q : ByteArray) (L : IdsL) : IdsL := L.filter fun p => inB p.1 q
set_option maxRecDepth 100000 in
set_option maxHeartbeats 1000000 in
theorem under_any {w : World} {r im : Nat} {ies : Array MapEntry} {iclk : Nat} {jp : Value} {l S : IdsL} (h : RefsI w r im ies iclk jp l S) (hks : ∀ p ∈ S, p.1.size ≤ 1000) (hl : S.length ≤ 100000) (q : ByteArray) :
    Calls Tryz.prog 68 #[.pointer (some ⟨r, 0, none⟩), .string q] w fun e w' => ∃ v, e = .returned v ∧ OwnR w.heap.size w' v (underL q (allOf S)) ∧ Kept (fun _ => False) w w' := by
  obtain ⟨W5, hW5⟩ : ∃ W, (w.alloc (.cells #[.string q] 9)).alloc (.cells #[.slice none 0 0] 30) = W := ⟨_, rfl⟩
  have hk5 : Kept (fun _ => False) w W5 := by rw [← hW5]; exact ((Kept.refl _ _).alloc _).alloc _
  have hs5 : W5.heap.size = w.heap.size + 1 + 1 := by rw [← hW5]; simp
  have hq5 : W5.heap[w.heap.size]? = some (.cells #[.string q] 9 (0, 0)) := by rw [← hW5]; exact alloc_old (heap_alloc_new _ _)
  have hb5 : W5.heap[w.heap.size + 1]? = some (.cells #[.slice none 0 0] 30 (0, 0)) := by
    have h7 := heap_alloc_new (w.alloc (.cells #[.string q] 9)) (.cells #[.slice none 0 0] 30)
    rw [World.size_alloc] at h7
    rw [← hW5]; exact h7
  have HW5 := Lib.hid hW5
  have H5 := Lib.hid (And.intro hk5 (And.intro hs5 hb5))
  have hlen : (allOf S).length ≤ 100000 := by rw [allOf_length]; exact hl
  clear hW5
  refine (callsIn_wide (n := 5)).1 ?_
  refine callsIn_of_wp_marks Tryz.func68 rfl trivial ?_ rfl
  refine (wpIn_wide (n := 5)).2 ?_
  simp only [Tryz.ntmps68, List.size_toArray, List.length_cons, List.length_nil, Nat.reduceAdd, Nat.reduceSub, Array.replicate_succ, Array.replicate_zero, List.push_toArray, List.append_toArray, List.nil_append, List.cons_append]
  go_wp2_with fail
  rw [HW5.out]
  refine (rall_any (some ⟨r, 0, none⟩) W5).mono ?_
  rintro e W6 ⟨rfl, hW6⟩
  have hk6 : Kept (fun _ => False) W5 W6 := by rw [hW6]; exact (Kept.refl _ _).alloc _
  have hs6 : W6.heap.size = w.heap.size + 1 + 1 + 1 := by rw [hW6]; simp [hs5]
  have hbs : W6.heap[w.heap.size + 1 + 1]? = some (.cells #[.pointer (some ⟨r, 0, none⟩)] 26 (0, 0)) := by rw [hW6, ← hs5]; exact World.alloc_heap_new _ _
  have hb6 : W6.heap[w.heap.size + 1]? = some (.cells #[.slice none 0 0] 30 (0, 0)) := (hk6.block _ (by omega) (fun f => f)).trans hb5
  have hk06 := hk5.more hk6 (fun _ f => f.elim)
  have hq6 : W6.heap[w.heap.size]? = some (.cells #[.string q] 9 (0, 0)) := (hk6.block _ (by omega) (fun f => f)).trans hq5
  have HQ6 := Lib.hid hq6
  have hI6 := h.keptN hk06
  have hnown : ∀ k, ¬ Owned (w.heap.size + 1) W6 k := fun k ⟨u, hu, hku⟩ => by
    simp [World.cell?, hb6] at hu
    subst hu
    cases hku
  have HSEQ := Lib.hid (rall_seq 4 (by omega) (w.heap.size + 1 + 1) (w.heap.size + 1) hI6 hks hl hbs (by omega) hnown)
  have hrl := (Array.getElem?_eq_some_iff.1 h.cell).1
  have hil := h.ids.lt
  rw [hs5]
  clear hq5 hq6 hW6 hnown hI6 hk5 hk6 hbs hb5 H5
  go_wp2_with fail
  refine name_act ?_
  intro A0 hA0
  refine (wpIn_wide (n := 5)).1 ?_
  refine wpIn_rangeV (by omega) (gf := 64) (lb := #[.pointer (some ⟨w.heap.size + 1 + 1, 0, none⟩)]) (by rw [hA0]; simp [Act.eval]) (enters_of Tryz.func64 (by kernel_rfl) rfl) HSEQ.out KeepZ.trans (keepZ_b (by omega) (fun k hk => by rcases hk with e | e | e <;> omega)) (fun _ => rfl)
    (fun pre W => (∃ v, W.heap[w.heap.size + 1]? = some (.cells #[v] 30 (0, 0)) ∧ OwnR W6.heap.size W v (underL q pre)) ∧ W6.heap.size ≤ W.heap.size ∧ Kept (fun i => i = w.heap.size + 1) W6 W)
    (fun _ _ _ => False) ?hI (fun _ _ _ _ _ hs _ _ => hs) ⟨⟨_, hb6, OwnR.nil _ _⟩, Nat.le_refl _, Kept.refl _ _⟩ (fun _ _ _ _ _ _ _ => trivial) (fun x a' _ => a' = { tmps := (((A0.tmps.setIfInBounds 10 (.string x.1)).setIfInBounds 11 (.int .u64 x.2)).setIfInBounds 6 (.string x.1)).setIfInBounds 7 (.int .u64 x.2), defers := [] }) (fun _ _ _ _ _ _ h _ _ => h) ?assign ?body ?done ?stop
  case hI =>
    rintro pre A B row ⟨⟨v, hb, ho⟩, hs, hk⟩ hg hr
    have hne : ∀ k, k < W6.heap.size → some k ≠ row := fun k hk e => by have := (hr k e.symm).1; omega
    have hkG : Kept (fun k => row = some k) A B := Kept.grown (F := fun k => row = some k) (Kept.refl _ _) hg (fun k hk _ => hk)
    refine ⟨⟨v, (hg.block _ (by omega) (hne _ (by omega))).trans hb, rowKeptF ho hkG (fun g _ e hf => ?_)⟩, Nat.le_trans hs hg.size, hk.grown hg (fun k e hk => absurd e.symm (hne k (by omega)))⟩
    obtain ⟨-, o, ho2, hc⟩ := hr g hf
    rcases ho.2 with ⟨rfl, -⟩ | ⟨g', cap, cur, rfl, -, hg', -⟩
    · cases e
    · cases e; rw [hg'] at ho2; cases ho2; cases hc
  case assign =>
    rintro l' pre x W K hi hv hK
    have HK := Lib.hid hK
    have HI := Lib.hid hi
    clear hK hi hv
    subst hA0
    unfold refArgs
    gi_wp2
    exact HK.out _ W (KeepsFrom.refl _ _) ⟨⟨Nat.le_refl _, fun k o _ ho _ _ => ho, fun k h => .inl h⟩, fun _ _ => rfl⟩ HI.out trivial rfl
  case body =>
    rintro l' pre x a' W0 hl' ⟨⟨v, hb0, ho0⟩, hs0, hk0⟩ - rfl hpre
    have hq0 : W0.heap[w.heap.size]? = some (.cells #[.string q] 9 (0, 0)) := (hk0.block _ (Array.getElem?_eq_some_iff.1 HQ6.out).1 (by omega)).trans HQ6.out
    have hqc : W0.cell? ⟨w.heap.size, 0, none⟩ = some (.string q) := by simp [World.cell?, hq0]
    have HIN := Lib.hid (nameIn_any W0 x.1 q)
    have hul : (underL q pre).length ≤ 100000 := Nat.le_trans (List.length_filter_le _ _) (by have h7 : pre.length + 1 ≤ (allOf S).length := (by simpa using hpre.length_le); omega)
    have HUL : Hid (underL q (pre ++ [x]) = if inB x.1 q = true then underL q pre ++ [x] else underL q pre) := Lib.hid (by unfold underL; rw [List.filter_append]; cases h : inB x.1 q <;> simp [h])
    subst hA0
    simp only [List.setIfInBounds_toArray, List.set_cons_zero, List.set_cons_succ]
    have HB0 := Lib.hid (And.intro hb0 (And.intro ho0 (And.intro hs0 hk0)))
    clear hb0 ho0 hs0 hk0 hq0
    gi_wp2_with fail
    refine ⟨trivial, (callsIn_wide.2 HIN.out).mono ?_⟩
    rintro e W ⟨rfl, hkC⟩
    obtain ⟨hb0, ho0, hs0, hk0⟩ := HB0.out
    have hvc0 : W0.cell? ⟨w.heap.size + 1, 0, none⟩ = some v := by simp [World.cell?, hb0]
    have hb := (hkC.block _ (Array.getElem?_eq_some_iff.1 hb0).1 (fun f => f)).trans hb0
    have ho := ho0.keptN hkC
    have hs := Nat.le_trans hs0 hkC.size
    have hk : Kept (fun i => i = w.heap.size + 1) W6 W := hk0.trans hkC (fun _ _ f => f.elim)
    have hvc : W.cell? ⟨w.heap.size + 1, 0, none⟩ = some v := by simp [World.cell?, hb]
    have hvf : W.frozen? ⟨w.heap.size + 1, 0, none⟩ = false := by simp [World.frozen?, hb]
    have HC := Lib.hid hkC
    have HH := Lib.hid (And.intro hs0 (And.intro hk0 (And.intro hs hk)))
    have HVC := Lib.hid hvc0
    obtain ⟨bz, hbz⟩ : ∃ b, inB x.1 q = b := ⟨_, rfl⟩
    rw [hbz] at HUL ⊢
    clear hb0 ho0 hs0 hk0 hkC hs hk hvc0 hbz hqc
    cases bz with
    | false =>
      gi_wp2
      have hkC := HC.out
      obtain ⟨hs0, hk0, hs, hk⟩ := HH.out
      refine ⟨⟨hkC.size, fun k o hB ho2 _ => (hkC.block k (Array.getElem?_eq_some_iff.1 ho2).1 (fun f => f)).trans ho2⟩, ⟨⟨hkC.size, fun k o hk' ho2 _ hn => (hkC.block k (Array.getElem?_eq_some_iff.1 ho2).1 (fun f => f)).trans ho2, fun k ⟨u, hu, hku⟩ => ?_⟩, fun k hk' => hkC.block k (by have := hs0; rcases hk' with e | e | e <;> omega) (fun f => f)⟩, ⟨⟨v, hb, ?_⟩, hs, hk⟩⟩
      · rw [hvc] at hu
        cases hu
        exact .inl ⟨_, HVC.out, hku⟩
      · rw [HUL.out, if_neg (by simp)]
        exact ho
    | true =>
      obtain ⟨hs0, hk0, hs, hk⟩ := HH.out
      obtain ⟨P, hP⟩ : ∃ P, underL q pre = P := ⟨_, rfl⟩
      rw [hP] at ho hul HUL
      rw [if_pos rfl] at HUL
      clear hP
      obtain ⟨va, vc, rfl, -, -⟩ := ho.form
      obtain ⟨wA, hwA, hkA, hszA, hbA⟩ := ref_new W x.1 x.2
      have hA0' : wA.cell? ⟨W.heap.size, 0, none⟩ = some (.string x.1) := by simp [World.cell?, hbA]
      have hA1' : wA.cell? ⟨W.heap.size, 1, none⟩ = some (.int .u64 x.2) := by simp [World.cell?, hbA]
      obtain ⟨v', w', hrun, ho', hgw, hob⟩ := (ho.keptN hkA).push (by omega) ⟨W.heap.size, 0, none⟩ x hA0' hA1' (by omega)
      obtain ⟨va', vc', rfl, -, -⟩ := ho'.form
      have hnb : ∀ k, (Value.slice va P.length vc).ownBlock = some k → W6.heap.size ≤ k := fun k e => (World.ownsRow.lt ho k e).1
      have hbA := (hkA.block _ (Array.getElem?_eq_some_iff.1 hb).1 (fun f => f)).trans hb
      have hbw : w'.heap[w.heap.size + 1]? = some (.cells #[.slice va P.length vc] 30 (0, 0)) := (hgw.block _ (Array.getElem?_eq_some_iff.1 hbA).1 (fun e => by have := hnb _ e.symm; omega)).trans hbA
      have hwc : w'.cell? ⟨w.heap.size + 1, 0, none⟩ = some (.slice va P.length vc) := by simp [World.cell?, hbw]
      have hwf : w'.frozen? ⟨w.heap.size + 1, 0, none⟩ = false := by simp [World.frozen?, hbw]
      have HP := Lib.hid (And.intro ho' (And.intro hgw (And.intro hob (And.intro hbw (And.intro hkA hnb)))))
      clear ho' hgw hob hbw hkA hnb hbA hs0 hk0 hs hk
      gi_wp2_with (gi_at_builtin; refine wpListIn_append_run rfl (.tmp 15) (.tmp 19) #[30, 30] rfl _ _ _ _ rfl rfl hrun ?_)
      have hkC := HC.out
      obtain ⟨hs0, hk0, hs, hk⟩ := HH.out
      obtain ⟨ho', hgw, hob, hbw, hkA, hnb⟩ := HP.out
      have hrow := ho.keptN hkA
      have hbl := (Array.getElem?_eq_some_iff.1 hb).1
      have hkw : Kept (fun k => (Value.slice va P.length vc).ownBlock = some k) wA w' := Kept.grown (F := fun k => (Value.slice va P.length vc).ownBlock = some k) (Kept.refl _ _) hgw (fun k hk _ => hk)
      have hko : KeepsOthers W (w'.setCell ⟨w.heap.size + 1, 0, none⟩ (.slice va' (P.length + 1) vc')) := by
        refine ((show KeepsOthers W wA from hwA ▸ KeepsOthers.alloc W _).trans (KeepsOthers.of_grownBy hgw fun j o ej hj => ?_)).trans (KeepsOthers.setCell _ _ _)
        rcases hrow.2 with ⟨e2, _⟩ | ⟨g, cap, cur, e2, _, hgb, _⟩
        · rw [e2] at ej; cases ej
        · rw [e2] at ej; cases ej; rw [hgb] at hj; cases hj; rfl
      have hkS := (Kept.refl (fun i => i = w.heap.size + 1) w').setCell (p := ⟨w.heap.size + 1, 0, none⟩) (fun _ => rfl) (.slice va' (P.length + 1) vc')
      have hf := hko.from W6.heap.size
      have hl1 : (P ++ [x]).length = P.length + 1 := by simp
      have hkall0 : Kept (fun i => i = w.heap.size + 1 ∨ (Value.slice va P.length vc).ownBlock = some i) W (w'.setCell ⟨w.heap.size + 1, 0, none⟩ (.slice va' (P.length + 1) vc')) := ((hkA.mono (fun _ _ f => f.elim)).trans hkw (fun i _ e => .inr e)).trans hkS (fun i _ e => .inl e)
      have hkall := (hkC.mono (fun _ _ f => f.elim)).trans hkall0 (fun i _ e => e)
      have hszf : W0.heap.size ≤ (w'.setCell ⟨w.heap.size + 1, 0, none⟩ (.slice va' (P.length + 1) vc')).heap.size := Nat.le_trans hkC.size (Nat.le_trans hkA.size (Nat.le_trans hgw.size hkS.size))
      refine ⟨⟨hszf, fun k o hB ho2 hi => (hf.same k o hB ((hkC.block k (Array.getElem?_eq_some_iff.1 ho2).1 (fun f => f)).trans ho2) hi)⟩, ⟨⟨hszf, fun k o hk' ho2 _ hn => ?_, fun k ⟨u, hu, hku⟩ => ?_⟩, fun k hk' => ?_⟩, ⟨⟨_, heap_setCell_row (o := 0) hbw _, ?_⟩, Nat.le_trans hs (Nat.le_trans hkA.size (Nat.le_trans hgw.size hkS.size)), ?_⟩⟩
      · exact (hkall.block k (Array.getElem?_eq_some_iff.1 ho2).1 (fun e => by
          rcases e with e | e
          · omega
          · exact hn ⟨_, HVC.out, e⟩)).trans ho2
      · rw [World.cell?_setCell_same' _ _ _ (by rw [hwc]; rfl)] at hu
        cases hu
        rw [hl1] at hob
        rcases hob with e | e
        · rw [e] at hku; exact .inl ⟨_, HVC.out, hku⟩
        · rw [e] at hku; cases hku; exact .inr (Nat.le_trans hkC.size hkA.size)
      · have hk7 : k < w.heap.size + 1 ∨ k = w.heap.size + 1 + 1 := by rcases hk' with e | e | e <;> omega
        exact hkall.block k (by omega) (fun e => by
          rcases e with e | e
          · omega
          · have := hnb k e; omega)
      · rw [HUL.out]
        rw [hl1] at ho'
        exact rowKeptF ho' hkS (fun g hg e hf => by omega)
      · exact hk.trans hkall0 (fun i hi e => by
          rcases e with e | e
          · exact e
          · have := hnb i e; omega)
  case done =>
    rintro D xs W hD rfl ⟨⟨v, hb, ho⟩, hs, hk⟩ hK
    have hvc : W.cell? ⟨w.heap.size + 1, 0, none⟩ = some v := by simp [World.cell?, hb]
    have HF := Lib.hid (And.intro ho (And.intro hk hK))
    have HKW := Lib.hid hk06
    clear ho hk hK
    subst hA0
    go_wp2_with fail
    obtain ⟨ho, hk, hK⟩ := HF.out
    refine ⟨by simp, .inl ⟨_, _, rfl, run_takeDeferred hK, ?_⟩⟩
    have hkD : Kept (· = D) W (W.putObj D (.deferred none)) := (Kept.refl _ _).grown (grownBy_putObj' W D (.deferred none)) (fun k e _ => by cases e; rfl)
    refine ⟨_, results_tmp rfl _ _ _, v, rfl, ?_, ?_⟩
    · refine OwnR.mono (rowKeptF ho hkD (fun g hg e he => ?_)) (by omega)
      obtain rfl : g = D := he
      rcases ho.2 with ⟨rfl, -⟩ | ⟨g', cap, cur, rfl, -, hg', -⟩
      · cases e
      · cases e; rw [hg'] at hK; cases hK
    · exact (HKW.out.more hk (fun i (e : i = w.heap.size + 1) => by omega)).more hkD (fun i (e : i = D) => by omega)
  case stop =>
    rintro D cc pre W hD hS hf
    exact hf.elim
end Go.Proofs.YtjnhkepgoghogaaGreatDoor

/- espalierlaw08.under. -/
namespace Go.Proofs.YtjnhkepgoghogaaGreatDoor
open Go.RowKit Go.ChangeMaps Go.MapKept
set_option linter.unusedSimpArgs false

theorem flatR_set : ∀ (l : IdsL) (k : Nat) (p : ByteArray × Nat), flatR (l.set k p) = ((flatR l).set (k * 2) (.string p.1)).set (k * 2 + 1) (.int .u64 p.2)
  | [], k, p => by simp [flatR]
  | x :: l, 0, p => by simp [flatR, encR]
  | x :: l, k + 1, p => by
    have h := flatR_set l k p
    rw [List.set_cons_succ]
    have e : ∀ (y : ByteArray × Nat) (m : IdsL), flatR (y :: m) = .string y.1 :: .int .u64 y.2 :: flatR m := fun y m => by simp [flatR, encR]
    rw [e, e, h, show (k + 1) * 2 = k * 2 + 1 + 1 from by omega]
    rfl
/-- A ref is emptied. -/
theorem OwnR.clear {b : Nat} {w : World} {g n c : Nat} {l : IdsL} (h : OwnR b w (.slice (some ⟨g, 0, none⟩) n c) l) (k : Nat) :
    OwnR b ((w.setCell ⟨g, k * 2, none⟩ (.string ⟨#[]⟩)).setCell ⟨g, k * 2 + 1, none⟩ (.int .u64 0)) (.slice (some ⟨g, 0, none⟩) n c) (l.set k (⟨#[]⟩, 0)) := by
  obtain ⟨h1, h2⟩ := h
  refine ⟨by rw [flatR_length, List.length_set], ?_⟩
  rcases h2 with ⟨e, -⟩ | ⟨g', c', cur, e, hb, hg, hn, hm, hs, ht⟩
  · cases e
  · cases e
    refine .inr ⟨g, c, (cur.setIfInBounds (k * 2) (.string ⟨#[]⟩)).setIfInBounds (k * 2 + 1) (.int .u64 0), by simp, hb, (heap_setCell_row ((heap_setCell_row hg _).trans rfl) _).trans rfl, by simpa using hn, hm, by simpa using hs, ?_⟩
    rw [flatR_set]
    simp only [Array.toList_setIfInBounds, List.length_set]
    rw [List.take_set, List.take_set, ht]
    rfl
theorem OwnR.zero {b : Nat} {w : World} {g o n c : Nat} {l : IdsL} (h : OwnR b w (.slice (some ⟨g, o, none⟩) n c) l) : o = 0 ∧ b ≤ g := by
  rcases h.2 with ⟨e, -⟩ | ⟨g', c', cur, e, hb, -⟩
  · cases e
  · cases e; exact ⟨rfl, hb⟩
theorem OwnR.fz {b : Nat} {w : World} {g n c : Nat} {l : IdsL} (h : OwnR b w (.slice (some ⟨g, 0, none⟩) n c) l) (o p : Nat) (x : Value) : w.frozen? ⟨g, o, none⟩ = false ∧ (w.setCell ⟨g, p, none⟩ x).frozen? ⟨g, o, none⟩ = false := by
  rcases h.2 with ⟨e, -⟩ | ⟨g', c', cur, e, hb, hg, -⟩
  · cases e
  · cases e
    have hg2 := heap_setCell_row (o := p) hg x
    exact ⟨by simp [World.frozen?, hg], by simp [World.frozen?, hg2]⟩
def clrL (i : Nat) (M : IdsL) : IdsL := List.replicate i (⟨#[]⟩, 0) ++ M.drop i
theorem clrL_length (i : Nat) (M : IdsL) (h : i ≤ M.length) : (clrL i M).length = M.length := by unfold clrL; simp; omega
theorem clrL_get (i : Nat) (M : IdsL) (h : i < M.length) : (clrL i M)[i]'(by rw [clrL_length i M (by omega)]; exact h) = M[i] := by
  unfold clrL
  rw [List.getElem_append_right (by simp)]
  simp
theorem clrL_set (i : Nat) (M : IdsL) (h : i < M.length) : (clrL i M).set i (⟨#[]⟩, 0) = clrL (i + 1) M := by
  unfold clrL
  rw [List.set_append_right _ _ (by simp), List.length_replicate, Nat.sub_self, List.drop_eq_getElem_cons h, List.set_cons_zero, List.replicate_succ', List.append_assoc]
  rfl
theorem underL_snoc (q : ByteArray) (L : IdsL) (x : ByteArray × Nat) : underL q (L ++ [x]) = if inB x.1 q = true then underL q L ++ [x] else underL q L := by
  unfold underL; rw [List.filter_append]; cases h : inB x.1 q <;> simp [h]

/-- Two refs more that are empty. -/
theorem OwnR.push2 {b : Nat} {w : World} {v : Value} {l : IdsL} (h : OwnR b w v l) (hk0 : b ≤ w.heap.size) (hl : l.length + 2 ≤ 1000000000000) :
    ∃ v' w', (Builtin.append_ #[30, 30] 30 #[v, .slice (some ⟨w.heap.size, 0, none⟩) 2 2]).run Tryz.prog (w.alloc (.cells #[.string ⟨#[]⟩, .int .u64 0, .string ⟨#[]⟩, .int .u64 0] 38)) = .ok v' w' ∧ OwnR b w' v' (l ++ [(⟨#[]⟩, 0), (⟨#[]⟩, 0)]) ∧ Kept (fun i => b ≤ i) w w' := by
  obtain ⟨wA, hwA⟩ : ∃ W, w.alloc (.cells #[.string ⟨#[]⟩, .int .u64 0, .string ⟨#[]⟩, .int .u64 0] 38) = W := ⟨_, rfl⟩
  have hk : Kept (fun _ => False) w wA := by rw [← hwA]; exact (Kept.refl _ _).alloc _
  have hb : wA.heap[w.heap.size]? = some (.cells #[.string ⟨#[]⟩, .int .u64 0, .string ⟨#[]⟩, .int .u64 0] 38 (0, 0)) := by rw [← hwA]; exact heap_alloc_new _ _
  have c0 : wA.cell? ⟨w.heap.size, 0, none⟩ = some (.string ⟨#[]⟩) := by simp [World.cell?, hb]
  have c1 : wA.cell? ⟨w.heap.size, 1, none⟩ = some (.int .u64 0) := by simp [World.cell?, hb]
  have c2 : wA.cell? ⟨w.heap.size, 2, none⟩ = some (.string ⟨#[]⟩) := by simp [World.cell?, hb]
  have c3 : wA.cell? ⟨w.heap.size, 3, none⟩ = some (.int .u64 0) := by simp [World.cell?, hb]
  obtain ⟨i0, hi, hz0, hz1, hz2⟩ := info_parts Tryz.info38
  have h' := h.keptN hk
  obtain ⟨v', w', hrun, ho2, hg2, -, hb2⟩ := run_append_own_at (P := Tryz.prog) wA b 30 30 38 i0 _ 2 24 Tryz.underlying30 hi hz0 hz1 hz2 rfl (by decide) _ _ _ h' ⟨w.heap.size, 0, none⟩ 2 2 (encR (⟨#[]⟩, 0) ++ encR (⟨#[]⟩, 0)) rfl (by
    intro j u hu
    match j, hu with
    | 0, hu => cases hu; exact c0
    | 1, hu => cases hu; exact c1
    | 2, hu => cases hu; exact c2
    | 3, hu => cases hu; exact c3
    | j + 4, hu => simp [encR] at hu) (by intro u hu; simp [encR] at hu; rcases hu with rfl | rfl | rfl | rfl <;> rfl) (by unfold maxLen; omega) (by omega) (Nat.le_trans hk0 hk.size)
  rw [hwA]
  refine ⟨v', w', hrun, ?_, (hk.mono (fun _ _ f => f.elim)).trans (Kept.grown (F := fun i => b ≤ i) (Kept.refl _ _) hg2 (fun i hi _ => (World.ownsRow.lt h' i hi).1)) (fun _ _ e => e)⟩
  unfold OwnR
  rw [flatR_append, List.length_append, show flatR [((⟨#[]⟩ : ByteArray), 0), (⟨#[]⟩, 0)] = encR (⟨#[]⟩, 0) ++ encR (⟨#[]⟩, 0) from by simp [flatR]]
  exact ho2
set_option maxRecDepth 100000 in
set_option maxHeartbeats 2000000 in
theorem lawUnder_any {w : World} {r im : Nat} {ies : Array MapEntry} {iclk : Nat} {jp : Value} {l S : IdsL} (h : RefsI w r im ies iclk jp l S) (hks : ∀ p ∈ S, p.1.size ≤ 1000) (hl : S.length ≤ 100000) (a : Option Addr) (c : Nat) (h2 : IsR w (.slice a (allOf S).length c) (allOf S)) (q : ByteArray) :
    Calls Tryz.prog 40 #[.pointer (some ⟨r, 0, none⟩), .agg #[.slice a (allOf S).length c], .string q] w fun e w' => e = .returned (.bool true) ∧ Kept (fun _ => False) w w' := by
  have HU := Lib.hid (fun (W : World) (hW : Kept (fun _ => False) w W) => under_any (h.keptN hW) hks hl q)
  have hlen : (allOf S).length ≤ 100000 := by rw [allOf_length]; exact hl
  obtain ⟨L, hL⟩ : ∃ L, allOf S = L := ⟨_, rfl⟩
  rw [hL] at HU h2 hlen ⊢
  have HL := Lib.hid h2
  obtain ⟨n, hn⟩ : ∃ n, L.length = n := ⟨_, rfl⟩
  rw [hn] at HL hlen ⊢
  have HN := Lib.hid hn
  clear h h2 hL hn
  obtain ⟨w1, hw1⟩ : ∃ W, w.alloc (.cells #[.slice a n c] 32) = W := ⟨_, rfl⟩
  have hB1 : w1.heap[w.heap.size]? = some (.cells #[.slice a n c] 32 (0, 0)) := by rw [← hw1]; exact heap_alloc_new _ _
  have HK1 : Hid (Kept (fun _ => False) w w1) := Lib.hid (by rw [← hw1]; exact (Kept.refl _ _).alloc _)
  have b0 : w1.cell? ⟨w.heap.size, 0, none⟩ = some (.slice a n c) := by simp [World.cell?, hB1]
  clear hB1
  go_enter Tryz.func40, Tryz.ntmps40
  go_wp2_with fail
  go_loopg [7, 16] n (fun g ov iv wr => ∃ k, k + g = n ∧ iv = .int .i64 k ∧ Hid (OwnR w1.heap.size wr ov (underL q (L.take k))) ∧ Hid (Kept (fun _ => False) w1 wr))
  case atStart => exact ⟨0, by omega, rfl, Lib.hid (OwnR.nil _ _), Lib.hid (Kept.refl _ _)⟩
  case round =>
    obtain ⟨k, hkg, rfl, HO, HK⟩ := hrel
    rcases Nat.eq_zero_or_pos gk with rfl | hpos
    · obtain rfl : k = n := by omega
      rw [List.take_of_length_le (by rw [HN.out]; exact Nat.le_refl _)] at HO
      have hml : (underL q L).length ≤ 100000 := Nat.le_trans (List.length_filter_le _ _) (by rw [HN.out]; exact hlen)
      obtain ⟨M, hM⟩ : ∃ M, underL q L = M := ⟨_, rfl⟩
      rw [hM] at HO HU hml
      obtain ⟨ma, mc, hmf, -, -⟩ := HO.out.form
      subst hmf
      obtain ⟨W2, hW2⟩ : ∃ W, wr = W := ⟨_, rfl⟩
      rw [hW2] at HO HK ⊢
      obtain ⟨m, hm⟩ : ∃ m, M.length = m := ⟨_, rfl⟩
      rw [hm] at HO hml ⊢
      have HM := Lib.hid hm
      have HK2 := Lib.hid (HK1.out.trans HK.out (fun _ _ f => f))
      clear hM hW2 hm
      go_wp2_with fail
      go_loopg [10] 2 (fun g iv wr => ∃ j, j + g = 2 ∧ iv = .int .i64 j ∧ Hid (Kept (fun _ => False) W2 wr))
      case atStart => exact ⟨0, by omega, rfl, Lib.hid (Kept.refl _ _)⟩
      case round =>
        obtain ⟨j, hjg, rfl, HKJ⟩ := hrel
        rcases Nat.eq_zero_or_pos gk with rfl | hjpos
        · obtain rfl : j = 2 := by omega
          go_wp2_with fail
          go_ret
          exact ⟨rfl, HK2.out.trans HKJ.out (fun _ _ f => f)⟩
        · have hjlt : (j : Int) < 2 := by omega
          obtain ⟨Wj, hWj⟩ : ∃ W, wr = W := ⟨_, rfl⟩
          rw [hWj] at HKJ ⊢
          have HKWJ := Lib.hid (HK2.out.trans HKJ.out (fun _ _ f => f))
          have HUJ := Lib.hid (HU.out Wj HKWJ.out)
          clear hWj
          go_wp2_with fail
          refine HUJ.out.mono ?_
          rintro e V ⟨v, rfl, hov, hkv⟩
          obtain ⟨va, vc, rfl, -, -⟩ := hov.form
          rw [HM.out] at hov ⊢
          have HOV := Lib.hid hov
          have HKV := Lib.hid hkv
          clear hov hkv
          go_wp2_with fail
          go_loopg [43] m (fun g iv wr => ∃ i, i + g = m ∧ iv = .int .i64 i ∧ Hid (OwnR Wj.heap.size wr (.slice va m vc) (clrL i M)) ∧ Hid (Kept (fun _ => False) Wj wr))
          case atStart => exact ⟨0, by omega, rfl, Lib.hid HOV.out, HKV⟩
          case round =>
            obtain ⟨i, hig, rfl, HOI, HKI⟩ := hrel
            rcases Nat.eq_zero_or_pos gk with rfl | hipos
            · obtain rfl : i = m := by omega
              have hmi : M.length ≤ 100000 := by rw [HM.out]; exact hml
              have hcl := clrL_length i M (by rw [HM.out]; exact Nat.le_refl _)
              obtain ⟨v2, w2, hrun2, ho2, hk2⟩ := HOI.out.push2 (by exact HKI.out.size) (by rw [hcl]; omega)
              obtain ⟨va2, vc2, rfl, -, -⟩ := ho2.form
              have hl2 : (clrL i M ++ [((⟨#[]⟩ : ByteArray), 0), (⟨#[]⟩, 0)]).length = i + 2 := by rw [List.length_append, hcl, HM.out]; rfl
              rw [hl2] at ho2 hrun2
              have h2i : ¬ ((i + 2 : Nat) : Int) < 2 := by omega
              have HKN : Hid (Kept (fun _ => False) W2 w2) := Lib.hid (HKJ.out.more (HKI.out.more hk2 (fun j hj => hj)) (fun _ f => f.elim))
              clear ho2 hk2 hl2 hcl hmi
              go_wp2_with (at_builtin; refine wpList_append_run rfl (.tmp 60) (.tmp 63) #[30, 30] rfl _ _ _ _ rfl rfl hrun2 ?_)
              clear hrun2
              go_roundg (gk - 1)
              case measure => omega
              case rel => exact ⟨j + 1, by omega, by go_num, HKN⟩
            · have hilt : (i : Int) < (m : Int) := by omega
              have him : i < M.length := by rw [HM.out]; omega
              have hcl := clrL_length i M (by omega)
              obtain ⟨ga, oa, rfl, hga, hx0, hx1⟩ := HOI.out.isR.at (k := i) (by rw [hcl]; exact him)
              obtain ⟨rfl, hbg⟩ := HOI.out.zero
              rw [clrL_get i M him] at hx0 hx1
              obtain ⟨gb, ob, rfl, hgb, hy0, hy1⟩ := (HO.out.isR.keptN (HKJ.out.trans HKI.out (fun _ _ f => f))).at (k := i) him
              have HCL := Lib.hid (HOI.out.clear i)
              rw [clrL_set i M him] at HCL
              generalize M[i] = x at *
              obtain ⟨xs, xi⟩ := x
              simp only [Nat.zero_add] at hx0 hx1 hy0 hy1
              have HQ0 := Lib.hid HKI.out.drew
              clear hcl him hga hgb
              go_wp2_with fail
              go_quiet (fail)
              obtain ⟨Wn, hWn⟩ : ∃ W, wr.drewN nq = W := ⟨_, rfl⟩
              have hkn : Kept (fun _ => False) wr Wn := by rw [← hWn]; exact (Kept.refl _ _).drewN _
              rw [hWn]
              have HON := HOI.out.keptN hkn
              have hfz := fun o p x => HON.fz o p x
              have f0 := (hfz (i * 2) 0 (.int .u64 0)).1
              have f1 := (hfz (i * 2 + 1) (i * 2) (.string ⟨#[]⟩)).2
              have z0 := hkn.cell hx0 (fun f => f)
              have z1 := hkn.cell hx1 (fun f => f)
              have hcn := HON.clear i
              rw [clrL_set i M (by rw [HM.out]; omega)] at hcn
              have HCN := Lib.hid hcn
              have HKN : Hid (Kept (fun _ => False) Wj ((Wn.setCell ⟨ga, i * 2, none⟩ (.string ⟨#[]⟩)).setCell ⟨ga, i * 2 + 1, none⟩ (.int .u64 0))) := Lib.hid ((HKI.out.trans hkn (fun _ _ f => f)).more (((Kept.refl (fun q => q = ga) Wn).setCell (p := ⟨ga, i * 2, none⟩) (fun _ => rfl) _).setCell (p := ⟨ga, i * 2 + 1, none⟩) (fun _ => rfl) _) (fun q e => e ▸ hbg))
              clear hWn hkn HON hfz hcn HCL
              go_wp2_with fail
              go_roundg (gk - 1)
              case measure => omega
              case rel => exact ⟨i + 1, by omega, by go_num, HCN, HKN⟩
    · have hlt : (k : Int) < (n : Int) := by omega
      have hkl : k < L.length := by rw [HN.out]; omega
      obtain ⟨ga, go, rfl, hga, hx0, hx1⟩ := ((HL.out.keptN HK1.out).keptN HK.out).at (k := k) hkl
      have HT : Hid (underL q (L.take (k + 1)) = if inB L[k].1 q = true then underL q (L.take k) ++ [L[k]] else underL q (L.take k)) := Lib.hid (by rw [List.take_succ_eq_append_getElem hkl, underL_snoc])
      generalize L[k] = x at *
      obtain ⟨xs, xi⟩ := x
      simp only at hx0 hx1 HT
      have hol : (underL q (L.take k)).length ≤ 100000 := Nat.le_trans (List.length_filter_le _ _) (by rw [List.length_take]; omega)
      obtain ⟨wA, hwA, hkA, hsA, hbA⟩ := ref_new wr xs xi
      have hA0 : wA.cell? ⟨wr.heap.size, 0, none⟩ = some (.string xs) := by simp [World.cell?, hbA]
      have hA1 : wA.cell? ⟨wr.heap.size, 1, none⟩ = some (.int .u64 xi) := by simp [World.cell?, hbA]
      have HIN := Lib.hid (nameIn_any wA xs q)
      have HKA := Lib.hid (HK.out.trans hkA (fun _ _ f => f))
      have HOA := Lib.hid (HO.out.keptN hkA)
      clear hbA hkA
      go_wp2_with fail
      refine HIN.out.mono ?_
      rintro e wB ⟨rfl, hkB⟩
      have HKB := Lib.hid (HKA.out.trans hkB (fun _ _ f => f))
      have HOB := Lib.hid (HOA.out.keptN hkB)
      have g0 := hkB.cell hA0 (fun f => f)
      have g1 := hkB.cell hA1 (fun f => f)
      obtain ⟨bz, hbz⟩ : ∃ b, inB xs q = b := ⟨_, rfl⟩
      rw [hbz] at HT ⊢
      obtain ⟨P, hP⟩ : ∃ P, underL q (L.take k) = P := ⟨_, rfl⟩
      rw [hP] at HT HOB hol
      clear hkB hbz hP HO HOA hwA hsA hA0 hA1
      cases bz with
      | false =>
        have HN2 : Hid (underL q (L.take (k + 1)) = P) := Lib.hid (by rw [HT.out]; simp)
        go_wp2_with fail
        go_roundg (gk - 1)
        case measure => omega
        case rel => exact ⟨k + 1, by omega, by go_num, Lib.hid (by rw [HN2.out]; exact HOB.out), HKB⟩
      | true =>
        have HN2 : Hid (underL q (L.take (k + 1)) = P ++ [(xs, xi)]) := Lib.hid (by rw [HT.out]; simp)
        obtain ⟨wC, hwC, hkC, hsC, hbC⟩ := ref_new wB xs xi
        have hC0 : wC.cell? ⟨wB.heap.size, 0, none⟩ = some (.string xs) := by simp [World.cell?, hbC]
        have hC1 : wC.cell? ⟨wB.heap.size, 1, none⟩ = some (.int .u64 xi) := by simp [World.cell?, hbC]
        obtain ⟨v2, w2, hrun2, ho2, hg2, -⟩ := (HOB.out.keptN hkC).push (by have := HKB.out.size; omega) ⟨wB.heap.size, 0, none⟩ (xs, xi) hC0 hC1 (by omega)
        have hkw2 : Kept (fun i => w1.heap.size ≤ i) wC w2 := Kept.grown (F := fun i => w1.heap.size ≤ i) (Kept.refl _ _) hg2 (fun i hi _ => (World.ownsRow.lt HOB.out i hi).1)
        have HK2 : Hid (Kept (fun _ => False) w1 w2) := Lib.hid ((HKB.out.more hkC (fun _ f => f.elim)).more hkw2 (fun i hi => hi))
        have HO2 : Hid (OwnR w1.heap.size w2 v2 (P ++ [(xs, xi)])) := Lib.hid ho2
        rw [← hwC] at hrun2
        obtain ⟨va, vc, rfl, -, -⟩ := HOB.out.form
        clear hwC hkC hsC hbC hC0 hC1 ho2 hg2 hkw2
        go_wp2_with (at_builtin; refine wpList_append_run rfl (.tmp 24) (.tmp 26) #[30, 30] rfl _ _ _ _ rfl rfl hrun2 ?_)
        clear hrun2
        go_roundg (gk - 1)
        case measure => omega
        case rel => exact ⟨k + 1, by omega, by go_num, Lib.hid (by rw [HN2.out]; exact HO2.out), HK2⟩
end Go.Proofs.YtjnhkepgoghogaaGreatDoor
