/- journal.Each: the maker, and the closure's contract. -/
import Derived.Test.YtjnhkepgoghogaaDoorRangeV
import Derived.Test.YtjnhkepgoghogaaDoorRsC
import Derived.RangeFuncBound
import Derived.RangeFuncCalls
import Derived.RangeFuncLeaves
import Derived.RangeFuncBox
import Derived.Shelf.Abstract
import Derived.OwnWalkIn
import Derived.LoopNIn
import Derived.LoopIn
import Derived.Maps.OwnIn
import Derived.RangeFuncWrites
import Derived.TacticsInMore
namespace Go.Proofs.YtjnhkepgoghogaaDoor
open Go.RowKit Go.Shelf

attribute [local go_sem] Oper.semAt_some

/-- These blocks are as they were. -/
structure KeepS (S : Nat → Prop) (W W' : World) : Prop where
  size : W.heap.size ≤ W'.heap.size
  same : ∀ k, S k → W'.heap[k]? = W.heap[k]?
theorem KeepS.trans {S : Nat → Prop} {A B C : World} (h : KeepS S A B) (k : KeepS S B C) : KeepS S A C := ⟨Nat.le_trans h.size k.size, fun i hi => (k.same i hi).trans (h.same i hi)⟩
theorem keepS_b {S : Nat → Prop} {w : World} (hS : ∀ k, S k → k < w.heap.size) (W : World) (l : Nat) (o o' : Obj) (hl : w.heap.size ≤ l) (_ : W.heap[l]? = some o) (_ : o.isCells = false) (_ : o.isWalk = false) : KeepS S W (W.putObj l o') :=
  ⟨(grownBy_putObj' W l o').size, fun k hk => World.putObj_heap_other (by have := hS k hk; omega)⟩
theorem KeepS.of_kept {S G : Nat → Prop} {W W' : World} (h : Kept G W W') (hS : ∀ k, S k → k < W.heap.size) (hG : ∀ k, S k → ¬ G k) : KeepS S W W' := ⟨h.size, fun k hk => h.block k (hS k hk) (hG k hk)⟩

theorem DiskAt.same {w w' : World} {b m : Nat} {es : Array MapEntry} {clock : Nat} {D : DM} (h : DiskAt w b m es clock D) (hb : ∀ k, diskF b m es k → w'.heap[k]? = w.heap[k]?) : DiskAt w' b m es clock D :=
  ⟨(hb b (.inl rfl)).trans h.cell, (hb m (.inr (.inl rfl))).trans h.map, h.stamped, h.rel.mono fun e he _ ho => OwnB.kept ho fun g hg => hb g (.inr (.inr ⟨e, he, hg⟩)), h.apart, h.ok⟩
theorem rowSame {b : Nat} {w w' : World} {t k : Nat} {v : Value} {n : Nat} {l : List Value} (h : w.ownsRow b t k v n l) (hk : ∀ g, v.ownBlock = some g → w'.heap[g]? = w.heap[g]?) : w'.ownsRow b t k v n l := by
  refine ⟨h.1, ?_⟩
  rcases h.2 with h2 | ⟨g, cap, cur, rfl, h3, h4, h5⟩
  · exact .inl h2
  · exact .inr ⟨g, cap, cur, rfl, h3, (hk g rfl).trans h4, h5⟩
theorem JAt.same {w w' : World} {j b m : Nat} {es : Array MapEntry} {clock : Nat} {av pv : Value} {D : DM} {J : JM} (h : JAt w j b m es clock av pv D J) (hb : ∀ k, jourF j b m es av pv k → w'.heap[k]? = w.heap[k]?) : JAt w' j b m es clock av pv D J :=
  ⟨h.disk.same (fun k hk => hb k (.inr (.inr (.inr hk)))), (hb j (.inl rfl)).trans h.cell, OwnB.kept h.all (fun g e => hb g (.inr (.inl e))), rowSame h.parts (fun g e => hb g (.inr (.inr (.inl e)))), h.sep, h.small⟩

theorem jeach_any (o : Option Addr) (w : World) : Calls Tryd.prog 46 #[.pointer o] w fun e w' => e = .returned (.func (.func 80) #[] #[.pointer (some ⟨w.heap.size, 0, none⟩)]) ∧ w' = w.alloc (.cells #[.pointer o] 87) := by
  go_enter Tryd.func46, Tryd.ntmps46
  go_wp2_with fail
  go_ret
  exact ⟨rfl, rfl⟩

/-- What a round of Each hands out. -/
def recV (recs : List (List UInt8)) (x : Nat × Value × List UInt8) (W : World) : Prop := IsB W x.2.1 x.2.2 ∧ recs[x.1]? = some x.2.2
def recArgs (x : Nat × Value × List UInt8) : Array Value := #[.int .i64 x.1, x.2.1]

set_option maxRecDepth 100000 in
set_option maxHeartbeats 1000000 in
theorem jeach_seq {w : World} {j b m : Nat} {es : Array MapEntry} {clock : Nat} {av pv : Value} {D : DM} {J : JM} (n : Nat) (hn : 2 ≤ n) (Bs : Nat) (h : JAt w j b m es clock av pv D J) (hBs : w.heap[Bs]? = some (.cells #[.pointer (some ⟨j, 0, none⟩)] 87 (0, 0))) :
    SeqV n Tryd.prog 80 #[.pointer (some ⟨Bs, 0, none⟩)] recArgs (recV J.recs) (KeepS (fun k => k = Bs ∨ jourF j b m es av pv k)) (fun xs => xs.map (·.2.2) = J.recs) (fun pre => pre.map (·.2.2) <+: J.recs) J.recs.length w := by
  intro l JJ Jx W hW hJ hY h0
  have hkW : Kept (fun _ => False) w W := Kept.of_below (Nat.le_refl _) hW
  have HB := Lib.hid (hW.block Bs (Array.getElem?_eq_some_iff.1 hBs).1 |>.trans hBs)
  have HJ := Lib.hid (h.keptN hkW)
  have HY := Lib.hid hY
  have HA := Lib.hid hJ
  have hLn := jlen_any HJ.out
  have c0 : W.cell? ⟨Bs, 0, none⟩ = some (.pointer (some ⟨j, 0, none⟩)) := by simp [World.cell?, HB.out]
  clear hY hJ h hBs hkW hW
  have HM : Hid (J.recs.length ≤ 4194304) := Lib.hid HJ.out.small.2.2.1
  obtain ⟨N, hN⟩ : ∃ N, J.recs.length = N := ⟨_, rfl⟩
  rw [hN] at hLn HM
  have HN := Lib.hid hN
  have HL := Lib.hid hLn
  have hNM : N ≤ 4194304 := HM.out
  clear hN hLn
  refine callsIn_of_wp Tryd.func80 rfl trivial ?_ rfl
  simp only [Tryd.ntmps80, List.size_toArray, List.length_cons, List.length_nil, Nat.reduceAdd, Nat.reduceSub, Array.replicate_succ, Array.replicate_zero, List.push_toArray, List.append_toArray, List.nil_append, List.cons_append]
  gi_wp2_with fail
  refine ⟨trivial, fun _ => by omega, (callsIn_wide.2 HL.out).mono ?_⟩
  rintro e W1 ⟨rfl, rfl⟩
  gi_wp2_with fail
  gi_loopw [6] (fun i wr => ∃ (k : Nat) (pre : List (Nat × Value × List UInt8)), k ≤ N ∧ i = .int .i64 k ∧ pre.map (·.2.2) = J.recs.take k ∧ JJ pre wr ∧ KeepS (fun k => k = Bs ∨ jourF j b m es av pv k) W wr) (fun i _ => N - (intOf i).toNat)
  case atStart => exact ⟨0, [], Nat.zero_le _, rfl, rfl, h0, Nat.le_refl _, fun _ _ => rfl⟩
  case round =>
    obtain ⟨k, pre, hk, rfl, hpre, hJs, hks⟩ := hrel
    have hjr : JAt wr j b m es clock av pv D J := HJ.out.same (fun i hi => hks.same i (.inr hi))
    have cr : wr.cell? ⟨Bs, 0, none⟩ = some (.pointer (some ⟨j, 0, none⟩)) := (World.cell?_of_block (w := W) (a := ⟨Bs, 0, none⟩) (hks.same Bs (.inl rfl))).trans c0
    by_cases hlt : k < N
    · have hkr : k < J.recs.length := by rw [HN.out]; exact hlt
      have HP := Lib.hid (payload_any hjr k hkr)
      have HR := Lib.hid hjr
      clear hjr
      gi_wp2_with fail
      refine ⟨trivial, fun _ => by omega, (callsIn_wide.2 HP.out).mono ?_⟩
      rintro e w2 ⟨v2, rfl, hf⟩
      have hJ2 : JJ pre w2 := HA.out _ _ _ none hJs (hf.kept.grownBy none) (fun r e => by cases e)
      obtain ⟨fn, tmps, assign, body, hy, hR⟩ := HY.out pre (k, v2, J.recs[k]) w2 hJ2 ⟨hf.own.isB, List.getElem?_eq_getElem hkr⟩ (by have h5 := congrArg List.length hpre; rw [List.length_map, List.length_take] at h5; omega)
      unfold recArgs at hy
      simp only at hy
      have HF := Lib.hid hf
      clear hf
      gi_wp2
      refine ⟨fun _ => by omega, hR.mono ?_⟩
      have hpre2 : (pre ++ [(k, v2, J.recs[k])]).map (·.2.2) = J.recs.take (k + 1) := by rw [List.map_append, hpre, List.take_succ_eq_append_getElem hkr]; rfl
      rintro e w3 (⟨rfl, hJ3, hk3⟩ | ⟨rfl, hJx3⟩)
      · gi_wp2
        go_roundw
        case rel =>
          refine ⟨k + 1, _, by omega, by go_num, hpre2, hJ3, (hks.trans (KeepS.of_kept HF.out.kept (fun i hi => ?_) (fun _ _ f => f))).trans hk3⟩
          rcases hi with rfl | hi
          · exact World.block_lt_of_cell? wr _ cr
          · exact HR.out.lt i hi
        case measure => simp [intOf]; omega
      · gi_wp2
        refine bodyPost_ret (results_none rfl _ _ _) rfl ?_
        exact ⟨⟨_, rfl⟩, .inr ⟨_, by rw [hpre2]; exact List.take_prefix _ _, hJx3⟩⟩
    · rw [List.take_of_length_le (by have := HN.out; omega)] at hpre
      gi_wp2
      go_end0
      exact ⟨⟨_, rfl⟩, .inl ⟨pre, hpre, hJs⟩⟩
end Go.Proofs.YtjnhkepgoghogaaDoor
