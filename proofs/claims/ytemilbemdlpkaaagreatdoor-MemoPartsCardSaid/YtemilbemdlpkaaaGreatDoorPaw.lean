/- contracts of the library for this translation (laid by the kit's program) -/
import Derived.Shelf.SlSortCmp.WholeK
import Derived.Ground.SlsfProg
import Derived.Test.YtemilbemdlpkaaaGreatDoorProg
import Derived.Test.YtemilbemdlpkaaaGreatDoorPav
import Derived.Shelf.SlSortCmp.NoneTotal
namespace Go.Proofs
open Go.Shelf
def Tryz.sortP_ren : Go.Shelf.Ren := ⟨fun | 6 => 75 | 15 => 112 | 14 => 118 | 28 => 147 | 29 => 148 | 20 => 150 | 21 => 151 | 22 => 152 | 23 => 153 | 24 => 154 | 25 => 155 | 26 => 156 | 27 => 157 | 46 => 183 | 47 => 179 | 48 => 180 | 49 => 184 | 50 => 185 | 57 => 200 | n => n, fun | 22 => 22 | 24 => 68 | 25 => 85 | 3 => 3 | 39 => 37 | 0 => 0 | 53 => 208 | 55 => 34 | 4 => 4 | 46 => 200 | 45 => 199 | 50 => 205 | 5 => 5 | 9 => 9 | 66 => 229 | 70 => 232 | 76 => 245 | 77 => 246 | n => n, fun | n => n⟩
theorem Tryz.sortP : Go.Proofs.SlLaysF0.n6 Tryz.prog Tryz.sortP_ren := {
  mixed := by kernel_rfl
  f6 := ⟨Tryz.f75.name, by decide, Tryz.func75.trans (congrArg some (by kernel_rfl))⟩
  f14 := ⟨Tryz.f118.name, by decide, Tryz.func118.trans (congrArg some (by kernel_rfl))⟩
  f15 := Tryz.func112.trans (congrArg some (by kernel_rfl))
  f20 := ⟨Tryz.f150.name, by decide, Tryz.func150.trans (congrArg some (by kernel_rfl))⟩
  f21 := ⟨Tryz.f151.name, by decide, Tryz.func151.trans (congrArg some (by kernel_rfl))⟩
  f22 := ⟨Tryz.f152.name, by decide, Tryz.func152.trans (congrArg some (by kernel_rfl))⟩
  f23 := ⟨Tryz.f153.name, by decide, Tryz.func153.trans (congrArg some (by kernel_rfl))⟩
  f24 := ⟨Tryz.f154.name, by decide, Tryz.func154.trans (congrArg some (by kernel_rfl))⟩
  f25 := ⟨Tryz.f155.name, by decide, Tryz.func155.trans (congrArg some (by kernel_rfl))⟩
  f26 := ⟨Tryz.f156.name, by decide, Tryz.func156.trans (congrArg some (by kernel_rfl))⟩
  f27 := ⟨Tryz.f157.name, by decide, Tryz.func157.trans (congrArg some (by kernel_rfl))⟩
  f28 := Tryz.func147.trans (congrArg some (by kernel_rfl))
  f29 := Tryz.func148.trans (congrArg some (by kernel_rfl))
  f46 := ⟨Tryz.f183.name, by decide, Tryz.func183.trans (congrArg some (by kernel_rfl))⟩
  f47 := Tryz.func179.trans (congrArg some (by kernel_rfl))
  f48 := Tryz.func180.trans (congrArg some (by kernel_rfl))
  f49 := ⟨Tryz.f184.name, by decide, Tryz.func184.trans (congrArg some (by kernel_rfl))⟩
  f50 := ⟨Tryz.f185.name, by decide, Tryz.func185.trans (congrArg some (by kernel_rfl))⟩
  f57 := ⟨Tryz.f200.name, by decide, Tryz.func200.trans (congrArg some (by kernel_rfl))⟩
  t0 := Tryz.underlying0
  a0 := Tryz.isAgg0
  z0 := Tryz.sizeOf0
  v0 := Tryz.zeroValue0
  t3 := Tryz.underlying3
  a3 := Tryz.isAgg3
  z3 := Tryz.sizeOf3
  v3 := Tryz.zeroValue3
  t4 := Tryz.underlying4
  a4 := Tryz.isAgg4
  z4 := Tryz.sizeOf4
  v4 := Tryz.zeroValue4
  t5 := Tryz.underlying5
  a5 := Tryz.isAgg5
  z5 := Tryz.sizeOf5
  v5 := Tryz.zeroValue5
  t9 := Tryz.underlying9
  a9 := Tryz.isAgg9
  z9 := Tryz.sizeOf9
  v9 := Tryz.zeroValue9
  t22 := Tryz.underlying22
  a22 := Tryz.isAgg22
  z22 := Tryz.sizeOf22
  v22 := Tryz.zeroValue22
  t25 := Tryz.underlying85
  a25 := Tryz.isAgg85
  z25 := Tryz.sizeOf85
  v25 := Tryz.zeroValue85
  t39 := Tryz.underlying37
  a39 := Tryz.isAgg37
  z39 := Tryz.sizeOf37
  v39 := Tryz.zeroValue37
  t45 := Tryz.underlying199
  a45 := Tryz.isAgg199
  z45 := Tryz.sizeOf199
  v45 := Tryz.zeroValue199
  t46 := Tryz.underlying200
  a46 := Tryz.isAgg200
  z46 := Tryz.sizeOf200
  v46 := Tryz.zeroValue200
  t50 := Tryz.underlying205
  a50 := Tryz.isAgg205
  z50 := Tryz.sizeOf205
  v50 := Tryz.zeroValue205
  t53 := Tryz.underlying208
  a53 := Tryz.isAgg208
  z53 := Tryz.sizeOf208
  v53 := Tryz.zeroValue208
  t55 := Tryz.underlying34
  a55 := Tryz.isAgg34
  z55 := Tryz.sizeOf34
  v55 := Tryz.zeroValue34
  t66 := Tryz.underlying229
  a66 := Tryz.isAgg229
  z66 := Tryz.sizeOf229
  v66 := Tryz.zeroValue229
  t70 := Tryz.underlying232
  a70 := Tryz.isAgg232
  z70 := Tryz.sizeOf232
  v70 := Tryz.zeroValue232
  t76 := Tryz.underlying245
  a76 := Tryz.isAgg245
  z76 := Tryz.sizeOf245
  v76 := Tryz.zeroValue245
  t77 := Tryz.underlying246
  a77 := Tryz.isAgg246
  z77 := Tryz.sizeOf246
  v77 := Tryz.zeroValue246 }
end Go.Proofs

/- slices.Collect and slices.SortedFunc at pairs. -/
namespace Go.Proofs.YtemilbemdlpkaaaGreatDoor
open Go.RowKit Go.Shelf

theorem collect_any (Bs n₀ : Nat) (sv : Value) (zs : List (Nat × Nat)) (hlen : zs.length ≤ 1000000) (w : World) (hBs : Bs < w.heap.size) (hn₀ : n₀ ≤ w.heap.size) (hc : w.cell? ⟨Bs, 0, none⟩ = some sv) (hI : PairsIn n₀ w sv zs) :
    Calls Tryz.prog 74 #[.func (.func 76) #[] #[.pointer (some ⟨Bs, 0, none⟩)]] w fun e w' => ∃ v, e = .returned v ∧ OwnP w.heap.size w' v zs ∧ Below n₀ w w' := by
  have hA : Calls Tryz.prog 117 #[.slice none 0 0, .func (.func 76) #[] #[.pointer (some ⟨Bs, 0, none⟩)]] w fun e w' => ∃ v, e = .returned v ∧ OwnP w.heap.size w' v zs ∧ Below n₀ w w' :=
    (callsIn_wide (n := 3)).1 (appendSeq_in _ 3 trivial rfl (by omega) 76 _ trivial (enters_of Tryz.func76 (by kernel_rfl) rfl) n₀ zs w hn₀ hlen (values_stops _ 2 trivial rfl (by omega) Bs n₀ sv zs (by omega) w hBs hn₀ hc hI))
  go_enter Tryz.func74, Tryz.ntmps74
  go_wp2_with fail
  refine hA.mono ?_
  rintro e w' ⟨v, rfl, h1, h2⟩
  go_wp2
  go_ret
  exact ⟨v, rfl, h1, h2⟩

def cmpP (x y : Nat × Nat) : Int := if x.1 < y.1 then -1 else if y.1 < x.1 then 1 else 0

set_option maxRecDepth 100000 in
theorem byFrom_any (x y : Nat × Nat) (W : World) : Calls Tryz.prog 38 #[.agg #[.int .u64 x.1, .int .u64 x.2], .agg #[.int .u64 y.1, .int .u64 y.2]] W fun e w' => e = .returned (.int .i64 (cmpP x y)) ∧ ∃ q os', w' = Sort.grow (W.drewN q) os' := by
  unfold cmpP
  have hself : ∀ n : Int, (n != n) = false := by intro n; simp
  go_enter Tryz.func38, Tryz.ntmps38
  go_wp2
  all_goals go_ret
  all_goals refine ⟨?_, 0, #[.cells #[.int .u64 x.1, .int .u64 x.2] 68, .cells #[.int .u64 y.1, .int .u64 y.2] 68], by rw [Sort.alloc_eq_grow, Sort.alloc_eq_grow, Sort.grow_grow]; rfl⟩
  all_goals first | rfl | simp [*]

theorem ltP (x y : Nat × Nat) : ltOf cmpP x y = decide (x.1 < y.1) := by
  unfold ltOf cmpP
  by_cases h1 : x.1 < y.1
  · simp [h1]
  · by_cases h2 : y.1 < x.1 <;> simp [h1, h2]
theorem swoP : Sort.SWO (ltOf cmpP) where
  irrefl x := by rw [ltP]; simp
  trans x y z h1 h2 := by rw [ltP] at *; simp at *; omega
  ntrans x y z h1 h2 := by rw [ltP] at *; simp at *; omega

theorem grow_kept (w : World) (os : Array Obj) : Kept (fun _ => False) w (Sort.grow w os) :=
  ⟨rfl, rfl, rfl, by simp [Sort.grow], fun k hk _ => by simp [Sort.grow, Array.getElem?_append_left hk]⟩

section
open Go.Lib Go.Sort
theorem flatK_get (l : List (Nat × Nat)) (j : Nat) (hj : j < l.length * 2) : (flatP l)[j]? = some ((flatK encP 2 l.toArray)[j]!) := by
  have hk : j / 2 < l.length := by omega
  rw [get_flatK encP 2 l.toArray j (by simpa using hj)]
  have hd : l.toArray[j / 2]! = l[j / 2] := by simp [hk]
  rw [hd]
  obtain ⟨h0, h1⟩ := flatP_get l (j / 2) hk
  rcases Nat.mod_two_eq_zero_or_one j with h | h
  · have e : j = j / 2 * 2 := by omega
    rw [h]
    conv => lhs; rw [e]
    rw [h0]; rfl
  · have e : j = j / 2 * 2 + 1 := by omega
    rw [h]
    conv => lhs; rw [e]
    rw [h1]; rfl

set_option maxRecDepth 100000 in
/-- slices.SortFunc by byFrom over a row of our own. -/
theorem sortFunc_any {b : Nat} {w : World} {v : Value} {l : List (Nat × Nat)} (h : OwnP b w v l) (hne : l ≠ []) (hlen : l.length ≤ 1000000) :
    Calls Tryz.prog 75 #[v, .func (.func 38) #[] #[]] w fun e w' => e = .returned (.tuple #[]) ∧ ∃ l', l'.Perm l ∧ l'.Pairwise (fun x y => x.1 ≤ y.1) ∧ OwnP b w' v l' ∧ Kept (fun k => v.ownBlock = some k) w w' := by
  rcases h.2 with ⟨rfl, h0⟩ | ⟨g, cap, cur, rfl, hb, hg, hn, hc, hs, ht⟩
  · exact absurd (List.length_eq_zero_iff.1 h0) hne
  have hcur : cur.size = cap * 2 := hs
  have hlt : g < w.heap.size := (Array.getElem?_eq_some_iff.1 hg).1
  have hH : HoldsK encP 2 w g 0 l.toArray := by
    intro j hj
    have hj2 : j < l.length * 2 := by simpa using hj
    refine ⟨?_, by simp [World.frozen?, hg]⟩
    rw [Nat.zero_add, cell_of_row w g j cur 68 (0, 0) hg]
    have h1 := flatK_get l j hj2
    rw [← ht, List.getElem?_take, if_pos hj2] at h1
    simpa using h1
  have eg : ∀ args w, (callFunc 38 args).run Tryz.prog w = .ok (.enter 38 args) w := enters_of Tryz.func38 (by kernel_rfl) rfl
  have hcon := AnyQ.slices_SortFunc Tryz.sortP 2 (fun w => by kernel_rfl) (fun w => by kernel_rfl) encP (fun _ => rfl) (fun x v hv => by simp [encP] at hv; rcases hv with rfl | rfl <;> rfl) cmpP swoP 38 #[] g 0 cap l.toArray w eg (fun _ _ _ _ x y => byFrom_any x y _) hH hlt (by simp; omega)
  refine hcon.mono ?_
  rintro e w' ⟨rfl, d', m, os, hp, hsd, rfl⟩
  have hds : d'.size = l.length := by simpa using hp.1
  refine ⟨rfl, d'.toList, ?_, ?_, ?_, ?_⟩
  · have := hp.2.2
    simp only [List.size_toArray] at this
    rw [Array.extract_eq_self_of_le (by omega), Array.extract_eq_self_of_le (by simp)] at this
    simpa using this
  · rw [List.pairwise_iff_getElem]
    intro i j hi hj hij
    have := hsd i j (Nat.zero_le _) hij (by simpa [hds] using hj)
    rw [ltP] at this
    simp only [decide_eq_false_iff_not, Nat.not_lt] at this
    simp only [Array.length_toList] at hi hj
    simpa [hi, hj] using this
  · refine ⟨by simp [flatP_length], .inr ⟨g, cap, putCells id 0 (flatK encP 2 d') cur, by rw [show d'.toList.length = l.length from by rw [Array.length_toList, hds]], hb, ?_, by rw [Array.length_toList, hds]; exact hn, hc, ?_, ?_⟩⟩
    · show (w.heap.modify g (onCells (putCells id 0 (flatK encP 2 d'))) ++ os)[g]? = _
      rw [Array.getElem?_append_left (by simpa using hlt), Array.getElem?_modify, if_pos rfl, hg]
      rfl
    · simp [putCells, hcur]
    · rw [Array.length_toList, hds]
      apply List.ext_getElem?
      intro j
      by_cases hj : j < l.length * 2
      · have hF := flatK_get d'.toList j (by rw [Array.length_toList, hds]; exact hj)
        rw [List.getElem?_take, if_pos hj, hF]
        have hjc : j < cur.size := by rw [hcur]; omega
        have hjF : j < (flatK encP 2 d').size := by simp [hds]; omega
        simp only [putCells, Array.getElem?_toList, Array.getElem?_mapIdx, Nat.sub_zero]
        rw [Array.getElem?_eq_getElem hjc]
        simp only [Option.map_some, id]
        rw [if_pos ⟨Nat.zero_le _, by omega⟩]
      · rw [List.getElem?_eq_none (by simp; omega), List.getElem?_eq_none (by rw [flatP_length, Array.length_toList, hds]; omega)]
  · refine ⟨rfl, rfl, rfl, by show w.heap.size ≤ (w.heap.modify g _ ++ os).size; simp, fun k hk hkg => ?_⟩
    show (w.heap.modify g (onCells (putCells id 0 (flatK encP 2 d'))) ++ os)[k]? = _
    rw [Array.getElem?_append_left (by simpa using hk), Array.getElem?_modify, if_neg (fun e => hkg (by rw [e]; rfl))]
end
end Go.Proofs.YtemilbemdlpkaaaGreatDoor

/- slices.SortedFunc at pairs. -/
namespace Go.Proofs.YtemilbemdlpkaaaGreatDoor
open Go.RowKit Go.Shelf

set_option maxRecDepth 100000 in
theorem sortedFunc_any (Bs n₀ : Nat) (sv : Value) (zs : List (Nat × Nat)) (hlen : zs.length ≤ 1000000) (w : World) (hBs : Bs < w.heap.size) (hn₀ : n₀ ≤ w.heap.size) (hc : w.cell? ⟨Bs, 0, none⟩ = some sv) (hI : PairsIn n₀ w sv zs) :
    Calls Tryz.prog 36 #[.func (.func 76) #[] #[.pointer (some ⟨Bs, 0, none⟩)], .func (.func 38) #[] #[]] w fun e w' => ∃ v l', e = .returned v ∧ l'.Perm zs ∧ l'.Pairwise (fun x y => x.1 ≤ y.1) ∧ OwnP w.heap.size w' v l' ∧ Below n₀ w w' := by
  go_enter Tryz.func36, Tryz.ntmps36
  go_wp2_with fail
  refine (collect_any Bs n₀ sv zs hlen w hBs hn₀ hc hI).mono ?_
  rintro e w1 ⟨v, rfl, hown, hb⟩
  by_cases hne : zs = []
  · subst hne
    obtain ⟨a, c, rfl, -, -⟩ := hown.form
    go_wp2_with fail
    refine (AnyF.slices_SortFunc_none Tryz.sortP a c _ w1).mono ?_
    rintro e w2 ⟨rfl, rfl⟩
    go_wp2
    go_ret
    exact ⟨_, [], rfl, List.Perm.refl _, List.Pairwise.nil, hown, hb⟩
  · have hlt := fun k e => (World.ownsRow.lt hown k e).1
    go_wp2_with fail
    refine (sortFunc_any hown hne hlen).mono ?_
    rintro e w2 ⟨rfl, l', hp, hs, ho, hk⟩
    go_wp2
    go_ret
    exact ⟨_, l', rfl, hp, hs, ho, hb.trans (hk.below (Nat.le_trans hn₀ hb.size) (fun k hk' e => by have := hlt k e; omega))⟩
end Go.Proofs.YtemilbemdlpkaaaGreatDoor

/- run.Make. -/
namespace Go.Proofs.YtemilbemdlpkaaaGreatDoor
open Go.RowKit Go.Shelf

def sortedP (l : List (Nat × Nat)) : List (Nat × Nat) := l.mergeSort fun x y => decide (x.1 ≤ y.1)
def makeOf (l : List (Nat × Nat)) : List UInt8 × Int :=
  if 65536 < l.length then ([], 3)
  else if ∃ p ∈ l, p.1 = 0 then ([], 2)
  else if ¬ (l.map (·.1)).Nodup then ([], 5)
  else (bytesOf (sortedP l), 0)

theorem sortedP_perm (l : List (Nat × Nat)) : (sortedP l).Perm l := List.mergeSort_perm _ _
theorem sortedP_le (l : List (Nat × Nat)) : (sortedP l).Pairwise (fun x y => x.1 ≤ y.1) := by
  have := List.pairwise_mergeSort (le := fun x y : Nat × Nat => decide (x.1 ≤ y.1)) (by intro a b c h1 h2; simp at *; omega) (by intro a b; simp; omega) l
  exact this.imp (fun h => by simpa using h)
theorem strict_of {l : List (Nat × Nat)} (h : l.Pairwise (fun x y => x.1 ≤ y.1)) (hn : (l.map (·.1)).Nodup) : l.Pairwise (fun x y => x.1 < y.1) := by
  rw [List.Nodup, List.pairwise_map] at hn
  exact (h.and hn).imp (fun ⟨h1, h2⟩ => by omega)
theorem sorted_eq {l l' : List (Nat × Nat)} (hp : l'.Perm l) (hs : l'.Pairwise (fun x y => x.1 < y.1)) : (l.map (·.1)).Nodup ∧ l' = sortedP l := by
  have hn : (l'.map (·.1)).Nodup := by
    rw [List.Nodup, List.pairwise_map]
    exact hs.imp (fun h => by omega)
  have hn2 : (l.map (·.1)).Nodup := (hp.map _).nodup_iff.1 hn
  have hs2 := strict_of (sortedP_le l) (((sortedP_perm l).map _).nodup_iff.2 hn2)
  exact ⟨hn2, List.Perm.eq_of_pairwise (fun a b _ _ h1 h2 => by omega) hs hs2 (hp.trans (sortedP_perm l).symm)⟩

theorem neighbours {l : List (Nat × Nat)} (hs : l.Pairwise (fun x y => x.1 ≤ y.1)) (h : ∀ k (hk : k + 1 < l.length), l[k + 1].1 ≠ l[k].1) : l.Pairwise (fun x y => x.1 < y.1) := by
  rw [List.pairwise_iff_getElem] at hs ⊢
  intro i j hi hj hij
  have h1 := hs i (j - 1 + 1) hi (by omega) (by omega)
  have h2 := h (j - 1) (by omega)
  have e : j - 1 + 1 = j := by omega
  simp only [e] at h1 h2
  rcases Nat.lt_or_ge i (j - 1) with hlt | hge
  · have h3 := hs i (j - 1) hi (by omega) hlt
    have h4 := hs (j - 1) j (by omega) hj (by omega)
    omega
  · have : i = j - 1 := by omega
    subst this
    omega
theorem dup_of {l l' : List (Nat × Nat)} (hp : l'.Perm l) (k : Nat) (hk : k + 1 < l'.length) (h : l'[k + 1].1 = l'[k].1) : ¬ (l.map (·.1)).Nodup := by
  intro hn
  have hn2 := (hp.map (·.1)).nodup_iff.2 hn
  rw [List.Nodup, List.pairwise_map, List.pairwise_iff_getElem] at hn2
  exact hn2 k (k + 1) (by omega) hk (by omega) h.symm
theorem zero_of {l l' : List (Nat × Nat)} (hp : l'.Perm l) (hs : l'.Pairwise (fun x y => x.1 ≤ y.1)) : (∃ p ∈ l, p.1 = 0) ↔ ∃ h : 0 < l'.length, l'[0].1 = 0 := by
  constructor
  · rintro ⟨p, hm, h0⟩
    have hm2 := hp.mem_iff.2 hm
    obtain ⟨i, hi, rfl⟩ := List.getElem_of_mem hm2
    refine ⟨by omega, ?_⟩
    rw [List.pairwise_iff_getElem] at hs
    rcases Nat.eq_zero_or_pos i with rfl | hpos
    · exact h0
    · have := hs 0 i (by omega) hi hpos
      omega
  · rintro ⟨h, h0⟩
    exact ⟨l'[0], hp.mem_iff.1 (List.getElem_mem h), h0⟩

theorem FreshB.after {w w1 w2 : World} {v : Value} {bs : List UInt8} (h : FreshB w1 v bs w2) (hk : Kept (fun _ => False) w w1) : FreshB w v bs w2 :=
  ⟨h.own, hk.more h.kept (fun _ h => h.elim), fun g hg => Nat.le_trans hk.size (h.new g hg)⟩
theorem FreshB.none {w w' : World} (hk : Kept (fun _ => False) w w') : FreshB w (.slice .none 0 0) [] w' := ⟨World.ownsRow_nil _ _ _ _, hk, fun g hg => by cases hg⟩

theorem OwnP.at {b : Nat} {w : World} {a : Option Addr} {n c : Nat} {l : List (Nat × Nat)} (h : OwnP b w (.slice a n c) l) (hne : l ≠ []) : ∃ g, a = some ⟨g, 0, none⟩ ∧ g < w.heap.size ∧ b ≤ g ∧ ∀ i x, (flatP l)[i]? = some x → w.cell? ⟨g, i, none⟩ = some x := by
  rcases h.2 with ⟨e, h0⟩ | ⟨g, cap, cur, e, hb, hg, hn, hm, hs, ht⟩
  · exact absurd (List.length_eq_zero_iff.1 h0) hne
  · cases e
    refine ⟨g, rfl, (Array.getElem?_eq_some_iff.1 hg).1, hb, fun i x hx => ?_⟩
    have hi : i < l.length * 2 := by rw [← flatP_length]; exact (List.getElem?_eq_some_iff.1 hx).1
    rw [cell_of_row w g i cur 68 (0, 0) hg]
    rw [← ht, List.getElem?_take, if_pos hi] at hx
    simpa using hx
theorem OwnP.isP {b : Nat} {w : World} {v : Value} {l : List (Nat × Nat)} (h : OwnP b w v l) (hb : ∀ p ∈ l, p.1 < 18446744073709551616 ∧ p.2 < 18446744073709551616) : IsP w v l := by
  obtain ⟨a, c, rfl, h1, h2⟩ := h.form
  refine ⟨a, c, rfl, h1, h2, hb, ?_⟩
  by_cases hne : l = []
  · exact .inl hne
  · obtain ⟨g, rfl, hg, -, hc⟩ := h.at hne
    exact .inr ⟨g, 0, rfl, hg, fun i x hx => by rw [Nat.zero_add]; exact hc i x hx⟩
theorem OwnP.pairsIn {b : Nat} {w : World} {v : Value} {l : List (Nat × Nat)} (h : OwnP b w v l) : PairsIn w.heap.size w v l := by
  rcases h.2 with ⟨rfl, h0⟩ | ⟨g, cap, cur, rfl, hb, hg, hn, hm, hs, ht⟩
  · exact .inl ⟨⟨_, _, rfl⟩, List.length_eq_zero_iff.1 h0⟩
  · refine .inr ⟨g, 0, cap, rfl, (Array.getElem?_eq_some_iff.1 hg).1, fun j hj => ?_⟩
    have hne : l ≠ [] := fun e => by rw [e] at hj; simp at hj
    obtain ⟨g', e, -, -, hc⟩ := OwnP.at (a := some ⟨g, 0, none⟩) (n := l.length) (c := cap) h hne
    cases e
    obtain ⟨h0, h1⟩ := flatP_get l j hj
    exact ⟨by rw [Nat.zero_add]; exact hc _ _ h0, by rw [Nat.zero_add]; exact hc _ _ h1⟩

theorem IsP.pairsIn {w w1 : World} {v : Value} {l : List (Nat × Nat)} (h : IsP w v l) (hk : Kept (fun _ => False) w w1) : PairsIn w1.heap.size w1 v l := by
  obtain ⟨a, c, rfl, h1, h2, h3, rfl | ⟨g, o, rfl, hg, hc⟩⟩ := h
  · exact .inl ⟨⟨_, _, rfl⟩, rfl⟩
  · refine .inr ⟨g, o, c, rfl, Nat.lt_of_lt_of_le hg hk.size, fun j hj => ?_⟩
    obtain ⟨h0, h1⟩ := flatP_get l j hj
    exact ⟨hk.cell (hc _ _ h0) (fun f => f), by rw [Nat.add_assoc]; exact hk.cell (hc _ _ h1) (fun f => f)⟩
set_option maxRecDepth 100000 in
set_option maxHeartbeats 1000000 in
theorem makeP_any (w : World) (a : Option Addr) (c : Nat) (l : List (Nat × Nat)) (h : IsP w (.slice a l.length c) l) (hlen : l.length ≤ 1000000) :
    Calls Tryz.prog 9 #[.slice a l.length c] w fun e w' => ∃ v, e = .returned (.tuple #[v, .int .i64 (makeOf l).2]) ∧ FreshB w v (makeOf l).1 w' := by
  have hlo : ∀ p ∈ l, p.1 < 18446744073709551616 ∧ p.2 < 18446744073709551616 := by obtain ⟨_, _, _, _, _, h3, _⟩ := h; exact h3
  have hM : Hid (makeOf l = if 65536 < l.length then ([], 3) else if ∃ p ∈ l, p.1 = 0 then ([], 2) else if ¬ (l.map (·.1)).Nodup then ([], 5) else (bytesOf (sortedP l), 0)) := Lib.hid rfl
  generalize makeOf l = M at hM ⊢
  go_enter Tryz.func9, Tryz.ntmps9
  by_cases hbig : 65536 < l.length
  · go_wp2
    go_ret2
    rw [hM.out, if_pos hbig]
    exact ⟨_, rfl, FreshB.nil w⟩
  rw [if_neg hbig] at hM
  go_wp2_with fail
  refine (values_any a l.length c w).mono ?_
  rintro e w1 ⟨rfl, hw1⟩
  have hk1 : Kept (fun _ => False) w w1 := by rw [hw1]; exact (Kept.refl _ _).alloc _
  have hsz1 : w1.heap.size = w.heap.size + 1 := by rw [hw1]; simp
  have hbox : w1.cell? ⟨w.heap.size, 0, none⟩ = some (.slice a l.length c) := by rw [hw1, World.cell?_alloc_new]; rfl
  clear hw1
  have hin : PairsIn w1.heap.size w1 (.slice a l.length c) l := h.pairsIn hk1
  go_wp2_with fail
  refine (sortedFunc_any w.heap.size w1.heap.size _ l hlen w1 (by omega) (Nat.le_refl _) hbox hin).mono ?_
  rintro e w2 ⟨v, l', rfl, hp, hs, hown, hbel⟩
  have hk2 : Kept (fun _ => False) w w2 := hk1.more (Kept.of_below (Nat.le_refl _) hbel) (fun _ h => h)
  have hlo' : ∀ p ∈ l', p.1 < 18446744073709551616 ∧ p.2 < 18446744073709551616 := fun p hm => hlo p (hp.mem_iff.1 hm)
  have hll : Hid (l'.length ≤ 65536) := Lib.hid (by rw [hp.length_eq]; omega)
  obtain ⟨la, lc, rfl, hlc, hlm⟩ := hown.form
  have hZ := zero_of hp hs
  by_cases hz : ∃ p ∈ l, p.1 = 0
  · rw [if_pos hz] at hM
    obtain ⟨h0, hz0⟩ := hZ.1 hz
    obtain ⟨g, rfl, hg, hbg, hcell⟩ := hown.at (by intro e; rw [e] at h0; simp at h0)
    have hc0 := hcell _ _ (flatP_get l' 0 h0).1
    rw [hz0] at hc0
    clear hcell
    go_wp2
    go_ret2
    rw [hM.out]
    exact ⟨_, rfl, FreshB.none hk2⟩
  rw [if_neg hz] at hM
  by_cases hne : l' = []
  · subst hne
    obtain ⟨hnd, hse⟩ := sorted_eq hp List.Pairwise.nil
    rw [if_neg (by simpa using hnd), ← hse] at hM
    clear hse hnd hZ
    go_wp2_with fail
    go_loopw [5] (fun i wr => wr = w2 ∧ i = .int .i64 1) (fun _ _ => 0)
    case atStart => exact ⟨rfl, rfl⟩
    case round =>
      obtain ⟨rfl, rfl⟩ := hrel
      go_wp2_with fail
      refine (bytes_any _ _ _ [] (hown.isP hlo') hll.out).mono ?_
      rintro e w3 ⟨v3, rfl, hf3⟩
      go_wp2
      go_ret2
      rw [hM.out]
      exact ⟨_, rfl, hf3.after hk2⟩
  · have h0 : 0 < l'.length := List.length_pos_iff.2 hne
    have hz0 : ¬ l'[0].1 = 0 := fun e => hz (hZ.2 ⟨h0, e⟩)
    obtain ⟨g, rfl, hg, hbg, hcell⟩ := hown.at hne
    have hc0 := hcell _ _ (flatP_get l' 0 h0).1
    obtain ⟨x0, hx0⟩ : ∃ x, l'[0].1 = x := ⟨_, rfl⟩
    rw [hx0] at hc0 hz0
    have HC := Lib.hid hcell
    clear hcell hx0
    go_wp2_with fail
    go_loopw [5] (fun i wr => Kept (fun _ => False) w2 wr ∧ ∃ k : Nat, 1 ≤ k ∧ k ≤ l'.length ∧ i = .int .i64 k ∧ Hid (∀ j (hj : j + 1 < l'.length), j + 1 < k → l'[j + 1].1 ≠ l'[j].1)) (fun i _ => l'.length - (intOf i).toNat)
    case atStart => exact ⟨Kept.refl _ _, 1, Nat.le_refl _, h0, rfl, Lib.hid (fun _ _ h => absurd h (by omega))⟩
    case round =>
      obtain ⟨hkr, k, hk1', hk, rfl, hne⟩ := hrel
      by_cases hlt : k < l'.length
      · obtain ⟨m, hmk⟩ : ∃ m, Hid (k = m + 1) := ⟨k - 1, Lib.hid (by omega)⟩
        have hwk : IntKind.i64.wrap ((k : Int) - 1) = (m : Int) := by have := hmk.out; have := hll.out; rw [IntKind.wrap_i64]; omega
        have hkb : k ≤ 65536 := by have := hll.out; omega
        have hml : m < l'.length := by have := hmk.out; omega
        have hc0 := hkr.cell (HC.out _ _ (flatP_get l' m hml).1) (fun f => f)
        have hc1 := hkr.cell (HC.out _ _ (flatP_get l' k hlt).1) (fun f => f)
        have hD : Hid (l'[k].1 = l'[m].1 → ¬ (l.map (·.1)).Nodup) := Lib.hid (fun e => dup_of hp m (by have := hmk.out; omega) (by have h := hmk.out; subst h; exact e))
        have hN : Hid (l'[k].1 ≠ l'[m].1 → ∀ j (hj : j + 1 < l'.length), j + 1 < k + 1 → l'[j + 1].1 ≠ l'[j].1) := Lib.hid (fun e j hj hjm => by
          have h := hmk.out; subst h
          rcases Nat.lt_or_ge j m with h | h
          · exact hne.out j hj (by omega)
          · have : j = m := by omega
            subst this; exact e)
        obtain ⟨x, hx⟩ : ∃ x, l'[m].1 = x := ⟨_, rfl⟩
        obtain ⟨y, hy⟩ : ∃ y, l'[k].1 = y := ⟨_, rfl⟩
        rw [hx] at hc0 hD hN
        rw [hy] at hc1 hD hN
        clear hx hy
        by_cases hxy : y = x
        · have hDD := Lib.hid (hD.out hxy)
          clear hD hN
          subst hxy
          go_wp2_with fail
          go_quiet (skip)
          go_wp2
          go_ret2
          rw [hM.out, if_pos hDD.out]
          exact ⟨_, rfl, FreshB.none ((hk2.more hkr (fun _ h => h.elim)).drewN _)⟩
        · have hxy2 : ¬ ((y : Int) = (x : Int)) := by omega
          go_wp2_with fail
          go_quiet (skip)
          go_wp2
          go_roundw
          case rel => exact ⟨hkr.drewN _, k + 1, by omega, hlt, by go_num, Lib.hid (hN.out hxy)⟩
          case measure => simp [intOf]; omega
      · have hs' := neighbours hs (fun j hj => hne.out j hj (by omega))
        obtain ⟨hnd, hse⟩ := sorted_eq hp hs'
        rw [if_neg (by simpa using hnd), ← hse] at hM
        clear hse hnd
        go_wp2_with fail
        refine (bytes_any _ _ _ l' ((hown.kept hkr (fun _ f => f.elim)).isP hlo') hll.out).mono ?_
        rintro e w3 ⟨v3, rfl, hf3⟩
        go_wp2
        go_ret2
        rw [hM.out]
        exact ⟨_, rfl, hf3.after (hk2.more hkr (fun _ h => h.elim))⟩
theorem make_any (w : World) (b : Nat) (a : Option Addr) (c : Nat) (l : List (Nat × Nat)) (h : OwnP b w (.slice a l.length c) l) (hlo : ∀ p ∈ l, p.1 < 18446744073709551616 ∧ p.2 < 18446744073709551616) (hlen : l.length ≤ 1000000) :
    Calls Tryz.prog 9 #[.slice a l.length c] w fun e w' => ∃ v, e = .returned (.tuple #[v, .int .i64 (makeOf l).2]) ∧ FreshB w v (makeOf l).1 w' := makeP_any w a c l (h.isP hlo) hlen
end Go.Proofs.YtemilbemdlpkaaaGreatDoor
