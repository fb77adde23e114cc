/- run.Merge. -/
import Derived.Test.YtemilbemdlpkaaaGreatDoorPbc
import Derived.Test.YtemilbemdlpkaaaGreatDoorPbh
import Derived.Test.YtemilbemdlpkaaaGreatDoorPbd
import Derived.Test.YtemilbemdlpkaaaGreatDoorPap
import Derived.Test.YtemilbemdlpkaaaGreatDoorPat
import Derived.Test.YtemilbemdlpkaaaGreatDoorPbg
import Derived.Shelf.SlSortCmp.NoneTotal
import Derived.Ground.SlsfProg
import Derived.Test.YtemilbemdlpkaaaGreatDoorProg
namespace Go.Proofs.YtemilbemdlpkaaaGreatDoor
open Go.RowKit

theorem insertion_nil (w : World) : Calls Tryz.prog 150 #[.slice none 0 0, .int .i64 0, .int .i64 0, .func (.func 38) #[] #[]] w fun e w' => e = .returned (.tuple #[]) ∧ Kept (fun _ => False) w w' := by
  go_enter Tryz.func150, Tryz.ntmps150
  go_wp2_with fail
  go_loopw [8] (fun iv wr => iv = .int .i64 1 ∧ Kept (fun _ => False) w wr) (fun _ _ => 0)
  case atStart => exact ⟨rfl, Kept.refl _ _⟩
  case round =>
    obtain ⟨rfl, hkr⟩ := hrel
    go_wp2
    go_end0
    exact ⟨rfl, hkr⟩
theorem stable_nil (w : World) : Calls Tryz.prog 166 #[.slice none 0 0, .int .i64 0, .func (.func 38) #[] #[]] w fun e w' => e = .returned (.tuple #[]) ∧ Kept (fun _ => False) w w' := by
  go_enter Tryz.func166, Tryz.ntmps166
  go_wp2_with fail
  go_loopw [7, 8] (fun av bv wr => av = .int .i64 0 ∧ bv = .int .i64 20 ∧ Kept (fun _ => False) w wr) (fun _ _ _ => 0)
  case atStart => exact ⟨rfl, rfl, Kept.refl _ _⟩
  case round =>
    obtain ⟨rfl, rfl, hkr⟩ := hrel
    go_wp2_with fail
    refine (insertion_nil _).mono ?_
    rintro e w2 ⟨rfl, hk2⟩
    go_wp2_with fail
    go_loopw [6] (fun sv wr2 => sv = .int .i64 20 ∧ Kept (fun _ => False) w wr2) (fun _ _ => 0)
    case atStart => exact ⟨rfl, hkr.more hk2 (fun _ f => f.elim)⟩
    case round =>
      obtain ⟨rfl, hkr2⟩ := hrel
      go_wp2
      go_end0
      exact ⟨rfl, hkr2⟩
theorem sortStable_nil (w : World) : Calls Tryz.prog 129 #[.slice none 0 0, .func (.func 38) #[] #[]] w fun e w' => e = .returned (.tuple #[]) ∧ Kept (fun _ => False) w w' := by
  go_enter Tryz.func129, Tryz.ntmps129
  go_wp2_with fail
  refine (stable_nil _).mono ?_
  rintro e w2 ⟨rfl, hk2⟩
  go_wp2
  go_end0
  exact ⟨rfl, hk2⟩
theorem compact_nil (w : World) : Calls Tryz.prog 130 #[.slice none 0 0, .func (.func 131) #[] #[]] w fun e w' => e = .returned (.slice none 0 0) ∧ w' = w := by
  go_enter Tryz.func130, Tryz.ntmps130
  go_wp2
  go_ret
  exact ⟨rfl, rfl⟩

def allOk (bss : List (List UInt8)) : Bool := bss.all fun bs => (pairsOf bs).2
def allP (bss : List (List UInt8)) : List (Nat × Nat) := bss.flatMap fun bs => (pairsOf bs).1
def mergeOf (bss : List (List UInt8)) : List UInt8 × Int :=
  if allOk bss = true then (if 65536 < (sortedR (allP bss)).length then ([], 3) else (bytesOf (sortedR (allP bss)), 0)) else ([], 8)
theorem allP_take {bss : List (List UInt8)} {k : Nat} (hk : k < bss.length) : allP (bss.take (k + 1)) = allP (bss.take k) ++ (pairsOf bss[k]).1 := by
  unfold allP
  rw [List.take_succ_eq_append_getElem hk, List.flatMap_append, List.flatMap_cons, List.flatMap_nil, List.append_nil]
theorem allOk_take {bss : List (List UInt8)} {k : Nat} (hk : k < bss.length) : allOk (bss.take (k + 1)) = (allOk (bss.take k) && (pairsOf bss[k]).2) := by
  unfold allOk
  rw [List.take_succ_eq_append_getElem hk, List.all_append, List.all_cons, List.all_nil, Bool.and_true]
theorem allOk_not {bss : List (List UInt8)} {k : Nat} (hk : k < bss.length) (h : (pairsOf bss[k]).2 = false) : allOk bss = false := by
  unfold allOk
  rw [List.all_eq_false]
  exact ⟨bss[k], List.getElem_mem hk, by rw [h]; simp⟩
theorem allP_take_len (bss : List (List UInt8)) (k : Nat) : (allP (bss.take k)).length ≤ (allP bss).length := by
  conv => rhs; rw [← List.take_append_drop k bss]
  unfold allP
  rw [List.flatMap_append, List.length_append]
  omega
theorem allP_bound {bss : List (List UInt8)} (h : allOk bss = true) : ∀ p ∈ allP bss, p.1 < 18446744073709551616 ∧ p.2 < 18446744073709551616 := by
  intro p hp
  unfold allP at hp
  obtain ⟨bs, hbs, hp⟩ := List.mem_flatMap.1 hp
  have hok := List.all_eq_true.1 h bs hbs
  exact ((pairsOf_rising bs hok).1.strict.2 p hp).2

set_option maxRecDepth 100000 in
set_option maxHeartbeats 1000000 in
theorem merge_any (w : World) (v : Value) (bss : List (List UInt8)) (h : RowsAt IsB w v bss) (hb : ∀ bs ∈ bss, bs.length ≤ 100000000000000) (hl : (allP bss).length ≤ 1000000) :
    Calls Tryz.prog 101 #[v] w fun e w' => ∃ r, e = .returned (.tuple #[r, .int .i64 (mergeOf bss).2]) ∧ FreshB w r (mergeOf bss).1 w' := by
  obtain ⟨a, c, rfl, hlc, hcm, hrows⟩ := h
  have hb63 : bss.length ≤ 9223372036854775807 := by unfold maxLen at hcm; omega
  have hM : Hid (mergeOf bss = if allOk bss = true then (if 65536 < (sortedR (allP bss)).length then ([], 3) else (bytesOf (sortedR (allP bss)), 0)) else ([], 8)) := Lib.hid rfl
  generalize mergeOf bss = M at hM ⊢
  go_enter Tryz.func101, Tryz.ntmps101
  go_wp2_with fail
  go_loopw [4, 11] (fun ov i wr => Kept (fun _ => False) w wr ∧ ∃ k : Nat, k ≤ bss.length ∧ i = .int .i64 k ∧ OwnP w.heap.size wr ov (allP (bss.take k)) ∧ Hid (allOk (bss.take k) = true)) (fun _ i _ => bss.length - (intOf i).toNat)
  case atStart => exact ⟨Kept.refl _ _, 0, Nat.zero_le _, rfl, World.ownsRow_nil _ _ _ _, Lib.hid rfl⟩
  case round =>
    obtain ⟨hkr, k, hk, rfl, hown, HOK⟩ := hrel
    by_cases hlt : k < bss.length
    · have hT := allP_take hlt
      have hO := allOk_take hlt
      have hN : (pairsOf bss[k]).2 = false → M = ([], 8) := fun e => by rw [hM.out, allOk_not hlt e]; rfl
      have hbk := hb bss[k] (List.getElem_mem hlt)
      obtain ⟨bs, hbs⟩ : ∃ bs, bss[k] = bs := ⟨_, rfl⟩
      obtain ⟨g, o, u, rfl, hc, hI⟩ := hrows k bs (by rw [List.getElem?_eq_getElem hlt, hbs])
      rw [hbs] at hT hO hN hbk
      obtain ⟨ua, uc, rfl, -⟩ := id hI
      have hcr := hkr.cell hc (fun f => f)
      have HPA := Lib.hid (pairs_any wr ua uc bs (hI.keptF hkr (fun _ _ f => f)) hbk)
      have hpr := pairsOf_rising bs
      have hL := allP_take_len bss (k + 1)
      rw [hT, List.length_append] at hL
      rw [HOK.out, Bool.true_and] at hO
      have HT := Lib.hid (And.intro hT (And.intro hO hL))
      have HN := Lib.hid hN
      clear hT hO hN hL hbs hc hI hbk
      obtain ⟨⟨l, ok⟩, hq⟩ : ∃ q, pairsOf bs = q := ⟨_, rfl⟩
      rw [hq] at HPA HT HN hpr
      clear hq
      simp only at HPA HT HN hpr
      cases ok with
      | true =>
        have hbd : ∀ p ∈ l, p.1 < 18446744073709551616 ∧ p.2 < 18446744073709551616 := fun p hp => ((hpr rfl).1.strict.2 p hp).2
        clear hpr HN
        go_wp2_with fail
        refine HPA.out.mono ?_
        rintro e w2 ⟨lv, rfl, ho2, hk2⟩
        have hI2 := ho2.isP hbd
        obtain ⟨la, lc, rfl, -, -⟩ := ho2.form
        obtain ⟨v', w', hrun, ho', hkp, -⟩ := (hown.kept hk2 (fun _ f => f.elim)).app (by have := (hkr.more hk2 (fun _ f => f.elim)).size; exact this) hI2 (by have := HT.out.2.2; omega)
        have hk' : Kept (fun _ => False) w w' := (hkr.more hk2 (fun _ f => f.elim)).more hkp (fun i hi => hi)
        have HO := Lib.hid (And.intro ho' hk')
        obtain ⟨oa, oc, rfl, -, -⟩ := hown.form
        clear ho' hk' hkp hI2 ho2 hown hcr
        go_wp2_with (at_builtin; refine wpList_append_run rfl (.tmp 22) (.tmp 23) #[22, 22] rfl _ _ _ _ rfl rfl hrun ?_)
        go_roundw
        case rel => exact ⟨HO.out.2, k + 1, hlt, by go_num, by rw [HT.out.1]; exact HO.out.1, Lib.hid HT.out.2.1⟩
        case measure => simp [intOf]; omega
      | false =>
        have hN2 := HN.out rfl
        clear HN HT hpr
        go_wp2_with fail
        refine HPA.out.mono ?_
        rintro e w2 ⟨lv, rfl, ho2, hk2⟩
        have HN3 := Lib.hid hN2
        clear hN2
        go_wp2
        go_ret2
        rw [HN3.out]
        exact ⟨_, rfl, .none (hkr.more hk2 (fun _ f => f.elim))⟩
    · obtain rfl : k = bss.length := by omega
      rw [List.take_length] at hown
      have HK : Hid (allOk bss = true) := Lib.hid (by have := HOK.out; rwa [List.take_length] at this)
      have hM2 : Hid (M = if 65536 < (sortedR (allP bss)).length then ([], 3) else (bytesOf (sortedR (allP bss)), 0)) := Lib.hid (by rw [hM.out, if_pos HK.out])
      have hSB : ∀ p ∈ sortedR (allP bss), p.1 < 18446744073709551616 ∧ p.2 < 18446744073709551616 := fun p hp => by
        have := ((sortedR_mem (allP bss) [] List.Pairwise.nil).2 p).1 hp
        exact allP_bound HK.out p (List.mem_of_find?_eq_some (by simpa using this))
      have hSL := sortedR_length (allP bss)
      have hXl : (allP bss).length ≤ 1000000 := hl
      generalize allP bss = X at *
      clear hM HOK HK hl
      rcases id hown.2 with ⟨rfl, h0⟩ | ⟨g, cap, cur, rfl, hgb, -, hnc, hcm2, -⟩
      · obtain rfl : X = [] := List.length_eq_zero_iff.1 h0
        have hM3 : Hid (M = (bytesOf [], 0)) := Lib.hid (by rw [hM2.out]; rfl)
        have HB := fun W => Lib.hid (bytes_any W none 0 [] ⟨none, 0, rfl, Nat.le_refl _, by simp [maxLen], fun p hp => by simp at hp, .inl rfl⟩ (by simp))
        clear hM2 hSL hSB hown h0 hXl
        go_wp2_with fail
        refine (sortStable_nil wr).mono ?_
        rintro e w2 ⟨rfl, hk2⟩
        go_wp2_with fail
        refine (compact_nil w2).mono ?_
        rintro e w3 ⟨rfl, rfl⟩
        go_wp2_with fail
        refine (HB w3).out.mono ?_
        rintro e w4 ⟨v4, rfl, hf4⟩
        go_wp2
        go_ret2
        rw [hM3.out]
        exact ⟨_, rfl, hf4.after (hkr.more hk2 (fun _ f => f.elim))⟩
      · have HS := Lib.hid (sortStable_any w.heap.size wr g cap X.length X hown rfl hXl)
        clear hown
        go_wp2_with fail
        refine HS.out.mono ?_
        rintro e w2 ⟨rfl, ⟨C, hC, ho2⟩, hk2⟩
        have HC := compact_any w.heap.size w2 g cap X.length C ho2 hC.len hXl hnc hcm2
        rw [compact_sorted hC] at HC
        have HC2 := Lib.hid HC
        have hk2' := hkr.more hk2 (fun i hi => by rw [hi]; exact hgb)
        clear hC ho2 HC
        go_wp2_with fail
        refine HC2.out.mono ?_
        rintro e w3 ⟨⟨v3, rfl, ho3⟩, hk3⟩
        have hk3' := hk2'.more hk3 (fun i hi => by rw [hi]; exact hgb)
        have hI3 := ho3.isP hSB
        obtain ⟨a3, c3, rfl, -, -⟩ := ho3.form
        by_cases hbig : 65536 < (sortedR X).length
        · have hbI : (65536 : Int) < ((sortedR X).length : Int) := by omega
          rw [if_pos hbig] at hM2
          clear hbig hSL ho3 hI3
          go_wp2
          go_ret2
          rw [hM2.out]
          exact ⟨_, rfl, .none hk3'⟩
        · have hbI : ¬ (65536 : Int) < ((sortedR X).length : Int) := by omega
          rw [if_neg hbig] at hM2
          have HB := Lib.hid (bytes_any w3 a3 c3 _ hI3 (by omega))
          clear hSL ho3 hI3 hbig
          generalize bytesOf (sortedR X) = bb at *
          generalize sortedR X = S at *
          go_wp2_with fail
          refine HB.out.mono ?_
          rintro e w4 ⟨v4, rfl, hf4⟩
          go_wp2
          go_ret2
          rw [hM2.out]
          exact ⟨_, rfl, hf4.after hk3'⟩
end Go.Proofs.YtemilbemdlpkaaaGreatDoor

/- memo: the plain model of what Open, Add, remove, read, record do. -/
namespace Go.Proofs.YtemilbemdlpkaaaGreatDoor
open Go.RowKit Go.ChangeMaps Go.MapKept
set_option linter.unusedSimpArgs false

/-! ### the runs that count -/
def putAll : List (Nat × Nat) → List (Nat × Nat) → Option (List (Nat × Nat))
  | kn, [] => some kn
  | kn, p :: l => if (getA p.1 kn).isSome then none else putAll (putA p.1 p.2 kn) l
def readM (D : DM) (file : ByteArray) : List Nat → List (Nat × Nat) → List RunP → Option (List (Nat × Nat) × List RunP)
  | [], kn, ps => some (kn, ps)
  | n :: ns, kn, ps =>
    match getA (runN file n) D.files with
    | none => none
    | some b => if (pairsOf b).2 = false then none else
      match putAll kn (pairsOf b).1 with
      | none => none
      | some kn' => readM D file ns kn' (ps ++ [⟨n, b⟩])
/-- Run files are removed, one by one. -/
def removeM (D : DM) (file : ByteArray) : List Nat → Int × DM
  | [] => (0, D)
  | n :: ns => if (D.remove (runN file n)).1 ≠ 0 then D.remove (runN file n) else removeM (D.remove (runN file n)).2 file ns

/-! ### a memo -/
def goneOf (D : DM) (file : ByteArray) (ns : List Nat) : List Nat := ((namesOf D.files).map fun s => numOf file (strB s)).filter fun n => decide (0 < n) && !decide (n ∈ ns)
def openAt (D1 : DM) (J : JM) (file : ByteArray) : Int × DM × Option MP :=
  if (recsOf J.recs).right = false then (8, D1, none) else
  match readM D1 file (recsOf J.recs).l [] [] with
  | none => (8, D1, none)
  | some (kn, ps) =>
    if (removeM D1 file (upL (goneOf D1 file (recsOf J.recs).l))).1 ≠ 0 then ((removeM D1 file (upL (goneOf D1 file (recsOf J.recs).l))).1, (removeM D1 file (upL (goneOf D1 file (recsOf J.recs).l))).2, none)
    else (0, (removeM D1 file (upL (goneOf D1 file (recsOf J.recs).l))).2, some ⟨file, kn, ps, (recsOf J.recs).last, false⟩)
/-- What Open makes of a disk: an error's number, the disk, the journal, the memo. -/
def openM (D : DM) (file : ByteArray) : Int × DM × JM × Option MP :=
  if (openJ D file).1 ≠ 0 then ((openJ D file).1, (openJ D file).2.1, (openJ D file).2.2, none)
  else ((openAt (openJ D file).2.1 (openJ D file).2.2 file).1, (openAt (openJ D file).2.1 (openJ D file).2.2 file).2.1, (openJ D file).2.2, (openAt (openJ D file).2.1 (openJ D file).2.2 file).2.2)
/-- The pairs that are new, or that one is known as another. -/
def freshOf (kn : List (Nat × Nat)) : List (Nat × Nat) → List (Nat × Nat) → Option (List (Nat × Nat))
  | fr, [] => some fr
  | fr, p :: l => match getA p.1 kn with
    | some t => if t = p.2 then freshOf kn fr l else none
    | none => freshOf kn (fr ++ [p]) l
def recordB (ns : List Nat) : List UInt8 := uintB ns.length ++ ns.flatMap uintB
/-- The run's file, and the record. -/
def layM (D : DM) (J : JM) (M : MP) (b : List UInt8) (others : List RunP) : Int × DM × JM × MP :=
  if (D.append (runN M.file (M.last + 1)) b).1 ≠ 0 then ((D.append (runN M.file (M.last + 1)) b).1, (D.append (runN M.file (M.last + 1)) b).2, J, M)
  else if (J.put (D.append (runN M.file (M.last + 1)) b).2 (recordB ((M.last + 1) :: others.map (·.n)))).1 ≠ 0 then
    ((J.put (D.append (runN M.file (M.last + 1)) b).2 (recordB ((M.last + 1) :: others.map (·.n)))).1, (J.put (D.append (runN M.file (M.last + 1)) b).2 (recordB ((M.last + 1) :: others.map (·.n)))).2.1, (J.put (D.append (runN M.file (M.last + 1)) b).2 (recordB ((M.last + 1) :: others.map (·.n)))).2.2, M)
  else (0, (J.put (D.append (runN M.file (M.last + 1)) b).2 (recordB ((M.last + 1) :: others.map (·.n)))).2.1, (J.put (D.append (runN M.file (M.last + 1)) b).2 (recordB ((M.last + 1) :: others.map (·.n)))).2.2, { M with parts := ⟨M.last + 1, b⟩ :: others, last := M.last + 1 })
/-- Behind lay: the pairs are known, what does not count goes. -/
def doneM (fresh : List (Nat × Nat)) (gone : List Nat) (R : Int × DM × JM × MP) : Int × DM × JM × MP :=
  if R.1 ≠ 0 then R
  else ((removeM R.2.1 R.2.2.2.file (upL gone)).1, (removeM R.2.1 R.2.2.2.file (upL gone)).2, R.2.2.1, { R.2.2.2 with known := R.2.2.2.known ++ fresh })
def writeM (D : DM) (J : JM) (M : MP) (fresh : List (Nat × Nat)) : Int × DM × JM × MP :=
  if (makeOf fresh).2 ≠ 0 then ((makeOf fresh).2, D, J, M)
  else if M.parts.length = 4 then
    if (mergeOf ((makeOf fresh).1 :: M.parts.map (·.bs))).2 ≠ 0 then ((mergeOf ((makeOf fresh).1 :: M.parts.map (·.bs))).2, D, J, M)
    else doneM fresh (M.parts.map (·.n)) (layM D J M (mergeOf ((makeOf fresh).1 :: M.parts.map (·.bs))).1 [])
  else doneM fresh [] (layM D J M (makeOf fresh).1 M.parts)
def addM (D : DM) (J : JM) (M : MP) (l : List (Nat × Nat)) : Int × DM × JM × MP :=
  if M.dead = true then (6, D, J, M)
  else if (makeOf l).2 ≠ 0 then ((makeOf l).2, D, J, M)
  else match freshOf M.known [] l with
  | none => (5, D, J, M)
  | some fresh =>
    if fresh = [] then (0, D, J, M)
    else if 65536 < fresh.length + M.known.length then (3, D, J, M)
    else ((writeM D J M fresh).1, (writeM D J M fresh).2.1, (writeM D J M fresh).2.2.1, { (writeM D J M fresh).2.2.2 with dead := !((writeM D J M fresh).1 == 0) })
end Go.Proofs.YtemilbemdlpkaaaGreatDoor

/- contracts of the library for this translation (laid by the kit's program) -/
namespace Go.Proofs
open Go.Shelf
def Tryz.sortI_ren : Go.Shelf.Ren := ⟨fun | 6 => 98 | 15 => 112 | 14 => 127 | 28 => 147 | 29 => 148 | 20 => 158 | 21 => 159 | 22 => 160 | 23 => 161 | 24 => 162 | 25 => 163 | 26 => 164 | 27 => 165 | 46 => 186 | 47 => 179 | 48 => 180 | 49 => 187 | 50 => 188 | 57 => 201 | n => n, fun | 22 => 23 | 24 => 3 | 25 => 167 | 3 => 3 | 39 => 37 | 0 => 0 | 53 => 208 | 55 => 34 | 4 => 4 | 46 => 200 | 45 => 199 | 50 => 205 | 5 => 5 | 9 => 9 | 66 => 229 | 70 => 232 | 76 => 245 | 77 => 246 | n => n, fun | n => n⟩
theorem Tryz.sortI : Go.Proofs.SlLaysF.n6 Tryz.prog Tryz.sortI_ren := {
  mixed := by kernel_rfl
  f6 := ⟨Tryz.f98.name, by decide, Tryz.func98.trans (congrArg some (by kernel_rfl))⟩
  f14 := ⟨Tryz.f127.name, by decide, Tryz.func127.trans (congrArg some (by kernel_rfl))⟩
  f15 := Tryz.func112.trans (congrArg some (by kernel_rfl))
  f20 := ⟨Tryz.f158.name, by decide, Tryz.func158.trans (congrArg some (by kernel_rfl))⟩
  f21 := ⟨Tryz.f159.name, by decide, Tryz.func159.trans (congrArg some (by kernel_rfl))⟩
  f22 := ⟨Tryz.f160.name, by decide, Tryz.func160.trans (congrArg some (by kernel_rfl))⟩
  f23 := ⟨Tryz.f161.name, by decide, Tryz.func161.trans (congrArg some (by kernel_rfl))⟩
  f24 := ⟨Tryz.f162.name, by decide, Tryz.func162.trans (congrArg some (by kernel_rfl))⟩
  f25 := ⟨Tryz.f163.name, by decide, Tryz.func163.trans (congrArg some (by kernel_rfl))⟩
  f26 := ⟨Tryz.f164.name, by decide, Tryz.func164.trans (congrArg some (by kernel_rfl))⟩
  f27 := ⟨Tryz.f165.name, by decide, Tryz.func165.trans (congrArg some (by kernel_rfl))⟩
  f28 := Tryz.func147.trans (congrArg some (by kernel_rfl))
  f29 := Tryz.func148.trans (congrArg some (by kernel_rfl))
  f46 := ⟨Tryz.f186.name, by decide, Tryz.func186.trans (congrArg some (by kernel_rfl))⟩
  f47 := Tryz.func179.trans (congrArg some (by kernel_rfl))
  f48 := Tryz.func180.trans (congrArg some (by kernel_rfl))
  f49 := ⟨Tryz.f187.name, by decide, Tryz.func187.trans (congrArg some (by kernel_rfl))⟩
  f50 := ⟨Tryz.f188.name, by decide, Tryz.func188.trans (congrArg some (by kernel_rfl))⟩
  f57 := ⟨Tryz.f201.name, by decide, Tryz.func201.trans (congrArg some (by kernel_rfl))⟩
  t0 := Tryz.underlying0
  a0 := Tryz.isAgg0
  z0 := Tryz.sizeOf0
  v0 := Tryz.zeroValue0
  t3 := Tryz.underlying3
  a3 := Tryz.isAgg3
  z3 := Tryz.sizeOf3
  v3 := Tryz.zeroValue3
  t4 := Tryz.underlying4
  a4 := Tryz.isAgg4
  z4 := Tryz.sizeOf4
  v4 := Tryz.zeroValue4
  t5 := Tryz.underlying5
  a5 := Tryz.isAgg5
  z5 := Tryz.sizeOf5
  v5 := Tryz.zeroValue5
  t9 := Tryz.underlying9
  a9 := Tryz.isAgg9
  z9 := Tryz.sizeOf9
  v9 := Tryz.zeroValue9
  t22 := Tryz.underlying23
  a22 := Tryz.isAgg23
  z22 := Tryz.sizeOf23
  v22 := Tryz.zeroValue23
  a24 := Tryz.isAgg3
  z24 := Tryz.sizeOf3
  t25 := Tryz.underlying167
  a25 := Tryz.isAgg167
  z25 := Tryz.sizeOf167
  v25 := Tryz.zeroValue167
  t39 := Tryz.underlying37
  a39 := Tryz.isAgg37
  z39 := Tryz.sizeOf37
  v39 := Tryz.zeroValue37
  t45 := Tryz.underlying199
  a45 := Tryz.isAgg199
  z45 := Tryz.sizeOf199
  v45 := Tryz.zeroValue199
  t46 := Tryz.underlying200
  a46 := Tryz.isAgg200
  z46 := Tryz.sizeOf200
  v46 := Tryz.zeroValue200
  t50 := Tryz.underlying205
  a50 := Tryz.isAgg205
  z50 := Tryz.sizeOf205
  v50 := Tryz.zeroValue205
  t53 := Tryz.underlying208
  a53 := Tryz.isAgg208
  z53 := Tryz.sizeOf208
  v53 := Tryz.zeroValue208
  t55 := Tryz.underlying34
  a55 := Tryz.isAgg34
  z55 := Tryz.sizeOf34
  v55 := Tryz.zeroValue34
  t66 := Tryz.underlying229
  a66 := Tryz.isAgg229
  z66 := Tryz.sizeOf229
  v66 := Tryz.zeroValue229
  t70 := Tryz.underlying232
  a70 := Tryz.isAgg232
  z70 := Tryz.sizeOf232
  v70 := Tryz.zeroValue232
  t76 := Tryz.underlying245
  a76 := Tryz.isAgg245
  z76 := Tryz.sizeOf245
  v76 := Tryz.zeroValue245
  t77 := Tryz.underlying246
  a77 := Tryz.isAgg246
  z77 := Tryz.sizeOf246
  v77 := Tryz.zeroValue246 }
end Go.Proofs
