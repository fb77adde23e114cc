/- refs: Get, Len, All's closure. -/
import Derived.Test.YtjnhkepgoghogaaGreatDoorRsG
import Derived.Test.YtjnhkepgoghogaaGreatDoorRsE
import Derived.Test.YtjnhkepgoghogaaGreatDoorKeep
import Derived.Test.YtjnhkepgoghogaaGreatDoorRefsP
import Derived.Test.YtjnhkepgoghogaaGreatDoorRound
namespace Go.Proofs.YtjnhkepgoghogaaGreatDoor
open Go.RowKit Go.Maps Go.Sort Go.Shelf
set_option linter.unusedSimpArgs false
attribute [local go_sem] Oper.semAt_some

theorem RefsI.kept {w w' : World} {r im : Nat} {ies : Array MapEntry} {iclk : Nat} {jp : Value} {l S : IdsL} (h : RefsI w r im ies iclk jp l S) {G : Nat → Prop} (hk : Kept G w w') (h1 : ¬ G r) (h2 : ¬ G im) : RefsI w' r im ies iclk jp l S :=
  ⟨(hk.block r (Array.getElem?_eq_some_iff.1 h.cell).1 h1).trans h.cell, h.ids.kept hk h2, h.perm⟩
theorem RefsI.keptN {w w' : World} {r im : Nat} {ies : Array MapEntry} {iclk : Nat} {jp : Value} {l S : IdsL} (h : RefsI w r im ies iclk jp l S) (hk : Kept (fun _ => False) w w') : RefsI w' r im ies iclk jp l S := h.kept hk (fun f => f) (fun f => f)
theorem RefsI.nodup {w : World} {r im : Nat} {ies : Array MapEntry} {iclk : Nat} {jp : Value} {l S : IdsL} (h : RefsI w r im ies iclk jp l S) : NodupA S := h.ids.nodup.perm h.perm
theorem RefsI.c0 {w : World} {r im : Nat} {ies : Array MapEntry} {iclk : Nat} {jp : Value} {l S : IdsL} (h : RefsI w r im ies iclk jp l S) : w.cell? ⟨r, 0, none⟩ = some (.map (some im)) := by simp [World.cell?, h.cell]

set_option maxRecDepth 100000 in
theorem get_any {w : World} {r im : Nat} {ies : Array MapEntry} {iclk : Nat} {jp : Value} {l S : IdsL} (h : RefsI w r im ies iclk jp l S) (s : ByteArray) :
    Calls Tryz.prog 18 #[.pointer (some ⟨r, 0, none⟩), .string s] w fun e w' => e = .returned (.tuple #[.int .u64 ((getA s S).getD 0 : Nat), .int .i64 (if (getA s S).isSome then 0 else 4)]) ∧ w = w' := by
  have c0 := h.c0
  have hlk := h.ids.look s true w h.ids.map
  simp only [if_true] at hlk
  rw [get_of_perm h.ids.nodup h.perm] at hlk
  clear h
  cases hg : getA s S with
  | none =>
    rw [hg] at hlk
    simp only [Option.isSome_none, Option.getD_none] at hlk ⊢
    go_enter Tryz.func18, Tryz.ntmps18
    go_wp2
    go_ret2
    exact ⟨rfl, rfl⟩
  | some n =>
    rw [hg] at hlk
    simp only [Option.isSome_some, Option.getD_some, if_true] at hlk ⊢
    go_enter Tryz.func18, Tryz.ntmps18
    go_wp2
    go_ret2
    exact ⟨rfl, rfl⟩
theorem len_any {w : World} {r im : Nat} {ies : Array MapEntry} {iclk : Nat} {jp : Value} {l S : IdsL} (h : RefsI w r im ies iclk jp l S) :
    Calls Tryz.prog 19 #[.pointer (some ⟨r, 0, none⟩)] w fun e w' => e = .returned (.int .i64 (S.length : Nat)) ∧ w = w' := by
  have c0 := h.c0
  have hl := fun ty => len_map (P := Tryz.prog) Tryz.underlying63 ty w h.ids.map
  rw [h.ids.size, h.perm.length_eq] at hl
  clear h
  go_enter Tryz.func19, Tryz.ntmps19
  go_wp2
  go_ret
  exact ⟨rfl, rfl⟩

/-! ### the names, rising -/
theorem keys_ids (mb : Option Nat) (W : World) : CallsIn Fence.wide 5 Tryz.prog 66 #[.map mb] W fun e w' => e = .returned (.func (.func 82) #[] #[.pointer (some ⟨W.heap.size, 0, none⟩)]) ∧ w' = W.alloc (.cells #[.map mb] 63) :=
  AnyZ.keys_in Tryz.keysI Fence.wide 5 trivial rfl mb W
set_option maxHeartbeats 1000000 in
theorem sorted_ids {H : Type} (b nn : Nat) (D0 : DataW H) (R : Value → Option (DataW H × List MemPlace)) (w : World) (hown : w.ownsMap Tryz.prog 9 R b nn D0) (hmax : Maps.size D0 ≤ maxLen) (hbytes : Maps.size D0 * 16 ≤ 140737488355328) :
    CallsIn Fence.wide 5 Tryz.prog 65 #[.func (.func 82) #[] #[.pointer (some ⟨w.heap.size, 0, none⟩)]] (w.alloc (.cells #[.map (some b)] 63)) fun e w' => ∃ (v : Value) (ss : List (List UInt8)), e = .returned v ∧ ss.Perm (strKeys D0) ∧
      w'.ownsRow (w.alloc (.cells #[.map (some b)] 63)).heap.size 9 1 v ss.length ((ss.mergeSort (fun x y => decide (x ≤ y))).map encStr) ∧ (v = .slice none 0 0 ↔ ss = []) ∧ Below (w.alloc (.cells #[.map (some b)] 63)).heap.size (w.alloc (.cells #[.map (some b)] 63)) w' := by
  have hbl := hown.lt
  have hseq : SeqGives Fence.wide 2 Tryz.prog 82 #[.pointer (some ⟨w.heap.size, 0, none⟩)] encStr (fun ss => ss.Perm (strKeys D0)) (Maps.size D0) (w.alloc (.cells #[.map (some b)] 63)) :=
    AnyZ.keys_gives (ρ := Tryz.keysI_ren) { Tryz.keysI with } Fence.wide _ trivial rfl (by omega) w.heap.size b nn D0 _ (by simp) (by simp) (by
      obtain ⟨es, clock, hb, Ft, hs, hD⟩ := hown
      exact ⟨es, clock, (Below.heap_alloc _ _ b hbl).trans hb, Ft, hs, hD⟩)
  exact AnyZ.sorted_in Tryz.sortedF Fence.wide 5 trivial trivial trivial trivial rfl (by omega) (sorts_files _) (enters_of Tryz.func81 (by kernel_rfl) rfl) 82 #[.pointer (some ⟨w.heap.size, 0, none⟩)] trivial (enters_of Tryz.func82 (by kernel_rfl) rfl) _ _ hmax hbytes _ hseq

theorem keysI_perm {w : World} {m : Nat} {es : Array MapEntry} {clock : Nat} {l : IdsL} (h : IdsAt w m es clock l) (hn : ∀ p ∈ l, p.1.size ≤ 1000) (hl : l.length ≤ 100000) :
    ∃ D0 : DataW Unit, w.ownsMap Tryz.prog 9 (fun _ => some (.nil, [])) m es.size D0 ∧ Maps.size D0 = l.length ∧ (strKeys D0).Perm (l.map (·.1.data.toList)) := by
  have hU : ∀ e ∈ es.toList, ∃ p ∈ l, e.key = .string p.1 := fun e he => by
    obtain ⟨p, hp, hk, _⟩ := h.rel.mem e he
    exact ⟨p, hp, hk⟩
  have hrd : ∀ e ∈ es.toList, WideElems.rd (H := Unit) Tryz.prog 9 (fun _ => some (.nil, [])) e = some (.string (match e.key with | .string s => s.data.toList | _ => []), .nil) := fun e he => by
    obtain ⟨p, hp, hk⟩ := hU e he
    have hl : p.1.size ≤ maxLen := by
      have := hn p hp
      unfold maxLen
      omega
    have hkey : keyOf Tryz.prog 9 e.key = some (.string p.1.data.toList) := by
      rw [hk]
      simp [keyOf, mapKey, Tryz.underlying9, hl]
    simp only [WideElems.rd, hkey, Option.bind_some, Option.map_some]
    rw [hk]
  have hlen : es.toList.length = l.length := h.rel.length
  refine ⟨_, ⟨es, clock, h.map, ⟨by rw [← Array.length_toList, hlen]; unfold maxLen; omega, h.stamped, fun e he => ⟨_, hrd e he⟩⟩, Nat.le_refl _, rfl⟩, ?_, ?_⟩
  · rw [Maps.size_eq, length_sorted, List.length_map, hlen]
  · show ((((es.toList.map _).foldr DataW.insert [])).map fun p => strOf p.1).Perm _
    refine (List.Perm.map _ (WideShapes.sorted_perm _)).trans ?_
    rw [List.map_map]
    have e1 : es.toList.map ((fun p => strOf p.1) ∘ WideElems.rg (H := Unit) Tryz.prog 9 (fun _ => some (.nil, []))) = l.map (·.1.data.toList) := by
      have : ∀ (x : List MapEntry) (m : IdsL), RelM Value.string idR x m → (∀ e ∈ x, e ∈ es.toList) → x.map ((fun p => strOf p.1) ∘ WideElems.rg (H := Unit) Tryz.prog 9 (fun _ => some (.nil, []))) = m.map (·.1.data.toList) := by
        intro x
        induction x with
        | nil => intro m hr _; cases m with
          | nil => rfl
          | cons _ _ => exact hr.elim
        | cons e x ih =>
          intro m hr hmem
          cases m with
          | nil => exact hr.elim
          | cons p m =>
            simp only [List.map_cons, Function.comp]
            rw [WideElems.rg_of (hrd e (hmem e (by simp))), hr.1.1]
            congr 1
            exact ih m hr.2 (fun x hx => hmem x (by simp [hx]))
      exact this es.toList l h.rel (fun e he => he)
    rw [e1]

/-- What a round of All hands out. -/
def refArgs (x : ByteArray × Nat) : Array Value := #[.string x.1, .int .u64 x.2]
set_option maxRecDepth 100000 in
set_option maxHeartbeats 1000000 in
theorem rall_seq {w : World} {r im : Nat} {ies : Array MapEntry} {iclk : Nat} {jp : Value} {l S : IdsL} (n : Nat) (hn : 2 ≤ n) (Bs box : Nat) (h : RefsI w r im ies iclk jp l S) (hks : ∀ p ∈ S, p.1.size ≤ 1000) (hl : S.length ≤ 100000) (hBs : w.heap[Bs]? = some (.cells #[.pointer (some ⟨r, 0, none⟩)] 26 (0, 0)))
    (hbox : box < w.heap.size) (hown : ∀ k, ¬ Owned box w k) :
    SeqV n Tryz.prog 64 #[.pointer (some ⟨Bs, 0, none⟩)] refArgs (fun _ _ => True) (KeepZ (fun k => k = Bs ∨ k = r ∨ k = im) box w.heap.size) (fun xs => xs = allOf S) (fun pre => pre <+: allOf S) (fun pre x => pre ++ [x] <+: allOf S) w := by
  intro lp JJ Jx W hW hJ hY h0
  have hkW : Kept (fun _ => False) w W := Kept.of_below (Nat.le_refl _) hW
  have HB := Lib.hid (hW.block Bs (Array.getElem?_eq_some_iff.1 hBs).1 |>.trans hBs)
  have hI := h.keptN hkW
  have HI := Lib.hid hI
  have HY := Lib.hid hY
  have HA := Lib.hid hJ
  have c0 : W.cell? ⟨Bs, 0, none⟩ = some (.pointer (some ⟨r, 0, none⟩)) := by simp [World.cell?, HB.out]
  have c1 := hI.c0
  obtain ⟨D0, hownM, hsz, hperm⟩ := keysI_perm hI.ids (fun p hp => hks p (hI.perm.mem_iff.1 hp)) (by rw [hI.perm.length_eq]; exact hl)
  have hSS := Lib.hid (sorted_ids im ies.size D0 _ W hownM (by rw [hsz, hI.perm.length_eq]; unfold maxLen; omega) (by rw [hsz, hI.perm.length_eq]; omega))
  have HP := Lib.hid hperm
  have HKW := Lib.hid hkW
  have HOW := Lib.hid hown
  have HBX := Lib.hid hbox
  clear hY hJ h hBs hkW hW hI hownM hsz hperm hown hbox
  refine callsIn_of_wp Tryz.func64 rfl trivial ?_ rfl
  simp only [Tryz.ntmps64, List.size_toArray, List.length_cons, List.length_nil, Nat.reduceAdd, Nat.reduceSub, Array.replicate_succ, Array.replicate_zero, List.push_toArray, List.append_toArray, List.nil_append, List.cons_append]
  gi_wp2_with fail
  refine ⟨trivial, fun _ => by omega, (callsIn_wide.2 (callsIn_wide.1 (keys_ids (some im) W))).mono ?_⟩
  rintro e W1 ⟨rfl, hW1⟩
  obtain ⟨W1', hW1'⟩ : ∃ X, W.alloc (.cells #[.map (some im)] 63) = X := ⟨_, rfl⟩
  rw [hW1'] at hW1 hSS
  subst hW1
  have hk1 : Kept (fun _ => False) W W1 := by rw [← hW1']; exact (Kept.refl _ _).alloc _
  have hs1 : W1.heap.size = W.heap.size + 1 := by rw [← hW1']; simp
  have HS1 := Lib.hid hs1
  have HK1 := Lib.hid hk1
  clear hW1' hk1 hs1
  gi_wp2_with fail
  refine ⟨trivial, fun _ => by omega, (callsIn_wide.2 (callsIn_wide.1 hSS.out)).mono ?_⟩
  rintro e W2 ⟨v, ss, rfl, hss, hrow, -, hb2⟩
  have hsort : ss.mergeSort (fun x y => decide (x ≤ y)) = namesOf S := sort_perm ((hss.trans HP.out).trans (HI.out.perm.map _))
  have hlen : ss.length = (namesOf S).length := by rw [← hsort, List.length_mergeSort]
  rw [hsort, hlen] at hrow
  have hk2 : Kept (fun _ => False) W1 W2 := Kept.of_below (Nat.le_refl _) hb2
  have hk12 := HK1.out.more hk2 (fun _ f => f.elim)
  have hN : (namesOf S).length = (allOf S).length := by unfold allOf; rw [List.length_map]
  obtain ⟨N, hNN⟩ : ∃ N, (namesOf S).length = N := ⟨_, rfl⟩
  have hNl : N = S.length := by rw [← hNN, hN, allOf_length]
  rw [hNN] at hrow hN
  obtain ⟨va, vc, hv⟩ : ∃ va vc, v = .slice va N vc := by
    rcases hrow.2 with ⟨h1, h2⟩ | ⟨g, cap, cur, h1, -⟩
    · exact ⟨none, 0, by rw [h1, h2]⟩
    · exact ⟨_, _, h1⟩
  subst hv
  have HG : Hid (∀ k (hk : k < (namesOf S).length), ∃ g cur, va = some ⟨g, 0, none⟩ ∧ W.heap.size ≤ g ∧ W2.heap[g]? = some (.cells cur 9 (0, 0)) ∧ cur[k]? = some (.string (strB (namesOf S)[k]))) := Lib.hid (fun k hk => by
    rcases hrow.2 with ⟨h1, h2⟩ | ⟨g, cap, cur, h1, hg1, hg2, -, -, -, ht⟩
    · omega
    · cases h1
      refine ⟨g, cur, rfl, by have := HS1.out; omega, hg2, ?_⟩
      have h3 : ((namesOf S).map encStr)[k]? = some (encStr (namesOf S)[k]) := by rw [List.getElem?_map, List.getElem?_eq_getElem hk]; rfl
      rw [← ht, List.getElem?_take] at h3
      split at h3
      · rw [Array.getElem?_toList] at h3; exact h3
      · cases h3)
  have HNN := Lib.hid hNN
  have HNl := Lib.hid hNl
  have hNM : N ≤ 100000 := by omega
  have hJ2 : JJ [] W2 := HA.out _ _ _ none h0 (hk12.grownBy none) (fun r e => by cases e)
  have HK12 := Lib.hid hk12
  have HHN := Lib.hid hN
  have hl2 : True := trivial
  clear hss hrow hsort hlen hk2 hk12 hb2 hNN hNl hN hSS HP c0 c1
  gi_wp2_with fail
  gi_loopw [14] (fun i wr => ∃ k : Nat, k ≤ N ∧ i = .int .i64 k ∧ JJ ((allOf S).take k) wr ∧ Hid (KeepZ (fun k => k = Bs ∨ k = r ∨ k = im) box w.heap.size W2 wr)) (fun i _ => N - (intOf i).toNat)
  case atStart => exact ⟨0, Nat.zero_le _, rfl, hJ2, Lib.hid ⟨⟨Nat.le_refl _, fun k o _ ho _ _ => ho, fun k h => .inl h⟩, fun _ _ => rfl⟩⟩
  case round =>
    obtain ⟨k, hk, rfl, hJs, hks⟩ := hrel
    have hIr : RefsI wr r im ies iclk jp l S := by
      have h1 := HI.out.keptN HK12.out
      exact ⟨(hks.out.same r (.inr (.inl rfl))).trans h1.cell, ⟨(hks.out.same im (.inr (.inr rfl))).trans h1.ids.map, h1.ids.stamped, h1.ids.rel, h1.ids.nodup⟩, h1.perm⟩
    have cr : wr.cell? ⟨Bs, 0, none⟩ = some (.pointer (some ⟨r, 0, none⟩)) := by
      have h1 := (HK12.out.block Bs (Array.getElem?_eq_some_iff.1 HB.out).1 (fun f => f)).trans HB.out
      have h2 := (hks.out.same Bs (.inl rfl)).trans h1
      simp [World.cell?, h2]
    have c1 := hIr.c0
    by_cases hlt : k < N
    · have hkn : k < (namesOf S).length := by rw [HNN.out]; exact hlt
      obtain ⟨g, cur, rfl, hgW, hg2, hcur⟩ := HG.out k hkn
      have hno : ¬ Owned box W2 g := fun hw => by
        obtain ⟨u, hu, hku⟩ := hw
        have h1 : W2.heap[box]? = w.heap[box]? := (HK12.out.block box (by have := HKW.out.size; have := HBX.out; omega) (fun f => f)).trans (HKW.out.block box HBX.out (fun f => f))
        rw [World.cell?_of_block (w := w) (w' := W2) (a := ⟨box, 0, none⟩) h1] at hu
        exact HOW.out g ⟨u, hu, hku⟩
      have hgr : wr.heap[g]? = some (.cells cur 9 (0, 0)) := hks.out.x.block g _ (by have := HKW.out.size; omega) hg2 rfl hno
      have hc : wr.cell? ⟨g, k, none⟩ = some (.string (strB (namesOf S)[k])) := by simp [World.cell?, hgr, hcur]
      have hlk := hIr.ids.look (strB (namesOf S)[k]) false wr hIr.ids.map
      rw [get_of_perm hIr.ids.nodup hIr.perm] at hlk
      have hka : k < (allOf S).length := by rw [← HHN.out]; exact hlt
      have hx : (allOf S)[k] = (strB (namesOf S)[k], (getA (strB (namesOf S)[k]) S).getD 0) := by simp [allOf]
      obtain ⟨fn, tmps, assign, body, hy, hR⟩ := HY.out ((allOf S).take k) (allOf S)[k] wr hJs trivial (by rw [← List.take_succ_eq_append_getElem hka]; exact List.take_prefix _ _)
      rw [hx] at hy hR
      have HT : Hid ((allOf S).take k ++ [(allOf S)[k]] = (allOf S).take (k + 1)) := Lib.hid (List.take_succ_eq_append_getElem hka).symm
      rw [← hx] at hR
      have HR := Lib.hid hR
      unfold refArgs at hy
      simp only at hy hlk
      generalize strB (namesOf S)[k] = s at *
      clear hcur hg2 hgr hno hIr hx hR
      gi_wp2
      refine ⟨fun _ => by omega, HR.out.mono ?_⟩
      rintro e w3 (⟨rfl, hJ3, hk3⟩ | ⟨rfl, hJx3⟩)
      · rw [HT.out] at hJ3
        have hks3 := Lib.hid (hks.out.trans hk3)
        gi_wp2
        go_roundw
        case rel => exact ⟨k + 1, by omega, by go_num, hJ3, hks3⟩
        case measure => simp [intOf]; omega
      · rw [HT.out] at hJx3
        gi_wp2
        refine bodyPost_ret (results_none rfl _ _ _) rfl ?_
        exact ⟨⟨_, rfl⟩, .inr ⟨_, List.take_prefix _ _, hJx3⟩⟩
    · rw [List.take_of_length_le (by have := HHN.out; omega)] at hJs
      gi_wp2
      go_end0
      exact ⟨⟨_, rfl⟩, .inl ⟨_, rfl, hJs⟩⟩
end Go.Proofs.YtjnhkepgoghogaaGreatDoor

/- espalierlaw08.all. -/
namespace Go.Proofs.YtjnhkepgoghogaaGreatDoor
open Go.RowKit Go.Shelf
set_option linter.unusedSimpArgs false
attribute [local go_sem] Oper.semAt_some

end Go.Proofs.YtjnhkepgoghogaaGreatDoor
