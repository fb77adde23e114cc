/- memo: the plain law of one that is new. -/
import Derived.Test.YtemilbemdlpkaaaGreatDoorPbr
import Derived.Test.YtemilbemdlpkaaaGreatDoorPaf
import Derived.Test.YtemilbemdlpkaaaGreatDoorPap
import Derived.Test.YtemilbemdlpkaaaGreatDoorPas
import Derived.Test.YtemilbemdlpkaaaGreatDoorPav
namespace Go.Proofs.YtemilbemdlpkaaaGreatDoor
open Go.RowKit
set_option linter.unusedSimpArgs false

theorem putA_putA {α β : Type} [DecidableEq α] (k : α) (u v : β) : ∀ l : List (α × β), putA k v (putA k u l) = putA k v l
  | [] => by simp [putA]
  | p :: l => by
    rw [show putA k u (p :: l) = if p.1 = k then (k, u) :: l else p :: putA k u l from rfl]
    by_cases h : p.1 = k
    · rw [if_pos h, show putA k v (p :: l) = if p.1 = k then (k, v) :: l else p :: putA k v l from rfl, if_pos h]
      simp [putA]
    · rw [if_neg h, show putA k v (p :: l) = if p.1 = k then (k, v) :: l else p :: putA k v l from rfl, if_neg h]
      rw [show putA k v (p :: putA k u l) = if p.1 = k then (k, v) :: putA k u l else p :: putA k v (putA k u l) from rfl, if_neg h, putA_putA k u v l]
/-- An uncut disk. -/
def DM.wrote (D : DM) (files : List (ByteArray × List UInt8)) (k : Nat) : DM := { D with files := files, writes := D.writes + k }
theorem raw_free18 {D : DM} (h : D.cut = false) : D.raw = some { D with writes := D.writes + 1 } := by unfold DM.raw; rw [h]; simp
theorem pieces_free18 (s : ByteArray) : ∀ (n : Nat) (bs : List UInt8) (D : DM), bs.length ≤ n → bs ≠ [] → D.cut = false → ∃ k : Nat, 1 ≤ k ∧ k ≤ bs.length ∧ DM.pieces s bs D = (0, D.wrote (putA s (D.bytes s ++ bs) D.files) k)
  | 0, bs, D, h, hne, hc => absurd (List.length_eq_zero_iff.1 (by omega)) hne
  | n + 1, bs, D, h, hne, hc => by
    have hpos := List.length_pos_iff.2 hne
    rw [DM.pieces_step hne (raw_free18 hc) (k := 32) (.inl rfl)]
    have hb : DM.bytes { D with writes := D.writes + 1 } s = D.bytes s := rfl
    rw [hb]
    by_cases hd : bs.drop 32 = []
    · have hl : bs.length ≤ 32 := by have := congrArg List.length hd; rw [List.length_drop] at this; simp at this; omega
      refine ⟨1, by omega, by omega, ?_⟩
      rw [hd, DM.pieces_nil, List.take_of_length_le hl]
      rfl
    · obtain ⟨k, h1, h2, h3⟩ := pieces_free18 s n (bs.drop 32) (DM.put { D with writes := D.writes + 1 } s (D.bytes s ++ bs.take 32)) (by rw [List.length_drop]; omega) hd hc
      have h32 : 32 < bs.length := by
        have := List.length_pos_iff.2 hd
        rw [List.length_drop] at this
        omega
      refine ⟨k + 1, by omega, by rw [List.length_drop] at h2; omega, ?_⟩
      rw [h3, DM.bytes_put, List.append_assoc, List.take_append_drop]
      unfold DM.wrote DM.put
      simp only [putA_putA]
      congr 2
      push_cast
      omega
theorem append_free18 {D : DM} {s : ByteArray} {bs : List UInt8} (hne : bs ≠ []) (hm : mayB s = true) (hc : D.cut = false) (hn : getA s D.files = none → D.files.length ≠ 256) (hb : (D.bytes s).length + bs.length ≤ 4194304) :
    ∃ k : Nat, 1 ≤ k ∧ k ≤ bs.length ∧ D.append s bs = (0, D.wrote (putA s (D.bytes s ++ bs) D.files) k) := by
  unfold DM.append
  rw [if_neg (by rw [hm]; simp), if_neg (fun e => hn e.1 e.2), if_neg (by omega), if_neg (fun e => hne e.1)]
  exact pieces_free18 s bs.length bs D (Nat.le_refl _) hne hc

/-! ### a new disk -/
def disk0 : DM := ⟨[], 0, 0, false⟩
theorem openM_new (fl : ByteArray) : openM disk0 fl = (0, disk0, ⟨fl, [], 0, false⟩, some ⟨fl, [], [], 0, false⟩) := by
  have hj : openJ disk0 fl = (0, disk0, ⟨fl, [], 0, false⟩) := by
    unfold openJ
    rw [show disk0.bytes fl = [] from rfl]
    unfold jOpen openOf
    simp [jGo]
  have hg : goneOf disk0 fl [] = [] := by
    unfold goneOf namesOf
    simp [disk0]
  unfold openM
  rw [hj]
  simp only []
  rw [if_neg (by simp)]
  have hr : recsOf ([] : List (List UInt8)) = ⟨[], 0, true⟩ := rfl
  unfold openAt
  simp only [hr, readM, hg]
  simp [removeM, upL]
theorem may_file : mayB (fileN 255) = true := by decide +kernel
theorem may_run : mayB (runN (fileN 255) 1) = true := by decide +kernel
theorem run_ne : runN (fileN 255) 1 ≠ fileN 255 := by decide +kernel
def pairs18 : List (Nat × Nat) := [(7, 0), (3, 9)]
theorem make18 : makeOf pairs18 = (bytesOf [(3, 9), (7, 0)], 0) := by
  obtain ⟨h1, h2⟩ := sorted_eq (l := pairs18) (l' := [(3, 9), (7, 0)]) (List.Perm.swap _ _ _) (by simp)
  unfold makeOf
  rw [if_neg (by simp [pairs18]), if_neg (by simp [pairs18]), if_neg (by simpa using h1), ← h2]
theorem recB_ne18 (p : List UInt8) : recB p ≠ [] := recB_ne p
theorem add_new : ∃ D J M, addM disk0 ⟨fileN 255, [], 0, false⟩ ⟨fileN 255, [], [], 0, false⟩ pairs18 = (0, D, J, M) ∧ M.known = pairs18 := by
  have hb : bytesOf [(3, 9), (7, 0)] ≠ [] := by
    intro h
    have := congrArg List.length h
    rw [bytesOf_length _ (by simp)] at this
    simp at this
  have hbl : (bytesOf [(3, 9), (7, 0)]).length ≤ 2000000 := by rw [bytesOf_length _ (by simp)]; simp
  obtain ⟨k, -, -, h1⟩ := append_free18 (D := disk0) hb may_run rfl (fun _ => by simp [disk0]) (by rw [show disk0.bytes (runN (fileN 255) 1) = [] from rfl]; simp only [List.length_nil]; omega)
  rw [show disk0.bytes (runN (fileN 255) 1) = [] from rfl, List.nil_append] at h1
  obtain ⟨D2, hD2⟩ : ∃ D2, disk0.wrote (putA (runN (fileN 255) 1) (bytesOf [(3, 9), (7, 0)]) disk0.files) k = D2 := ⟨_, rfl⟩
  rw [hD2] at h1
  have hf2 : D2.files = [(runN (fileN 255) 1, bytesOf [(3, 9), (7, 0)])] := by rw [← hD2]; rfl
  have hc2 : D2.cut = false := by rw [← hD2]; rfl
  have hb2 : D2.bytes (fileN 255) = [] := by
    unfold DM.bytes
    rw [hf2]
    simp [getA, run_ne]
  have hrl := recordB_len25 (recordB [1]) (by
    have := recordB2_len 1 [1] (by omega) (fun n hn => by rw [List.mem_singleton.1 hn]; omega)
    rw [recordB_eq]
    simp at this ⊢
    omega)
  obtain ⟨k2, -, -, h2⟩ := append_free18 (D := D2) (s := fileN 255) (bs := recB (recordB [1])) (recB_ne _) may_file hc2 (fun _ => by rw [hf2]; simp) (by rw [hb2]; simp only [List.length_nil]; omega)
  obtain ⟨D3, hD3⟩ : ∃ D3, D2.wrote (putA (fileN 255) (D2.bytes (fileN 255) ++ recB (recordB [1])) D2.files) k2 = D3 := ⟨_, rfl⟩
  rw [hD3] at h2
  have hput : JM.put ⟨fileN 255, [], 0, false⟩ D2 (recordB [1]) = (0, D3, JM.add ⟨fileN 255, [], 0, false⟩ (recordB [1]) (recB (recordB [1])).length) := by
    unfold JM.put
    simp only [h2, if_true]
  have hlay : layM disk0 ⟨fileN 255, [], 0, false⟩ ⟨fileN 255, [], [], 0, false⟩ (bytesOf [(3, 9), (7, 0)]) [] = (0, D3, JM.add ⟨fileN 255, [], 0, false⟩ (recordB [1]) (recB (recordB [1])).length, ⟨fileN 255, [], [⟨1, bytesOf [(3, 9), (7, 0)]⟩], 1, false⟩) := by
    unfold layM
    simp only [Nat.zero_add, List.map_nil, h1, hput]
    simp
  have hw : writeM disk0 ⟨fileN 255, [], 0, false⟩ ⟨fileN 255, [], [], 0, false⟩ pairs18 = (0, D3, JM.add ⟨fileN 255, [], 0, false⟩ (recordB [1]) (recB (recordB [1])).length, ⟨fileN 255, pairs18, [⟨1, bytesOf [(3, 9), (7, 0)]⟩], 1, false⟩) := by
    unfold writeM
    rw [make18]
    simp only []
    rw [if_neg (by simp), if_neg (by simp), hlay]
    unfold doneM
    simp [removeM, upL]
  refine ⟨D3, JM.add ⟨fileN 255, [], 0, false⟩ (recordB [1]) (recB (recordB [1])).length, ⟨fileN 255, pairs18, [⟨1, bytesOf [(3, 9), (7, 0)]⟩], 1, false⟩, ?_, rfl⟩
  unfold addM
  rw [if_neg (by simp), make18]
  simp only []
  rw [if_neg (by simp)]
  have hfr : freshOf [] [] pairs18 = some pairs18 := rfl
  simp only [hfr]
  rw [if_neg (by simp [pairs18]), if_neg (by simp [pairs18]), hw]
  simp
end Go.Proofs.YtemilbemdlpkaaaGreatDoor

/- espalierlaw18: wakes. -/
namespace Go.Proofs.YtemilbemdlpkaaaGreatDoor
open Go.RowKit Go.ChangeMaps Go.MapKept
set_option linter.unusedSimpArgs false

set_option maxRecDepth 100000 in
set_option maxHeartbeats 1000000 in
theorem wakes18_any (w : World) (hT : TabB w.heap.size w) : Calls Tryz.prog 8 #[] w fun e w' => e = .returned (.bool true) ∧ Kept (fun _ => False) w w' := by
  obtain ⟨D1, J1, M1, hadd, hkn⟩ := add_new
  have HADD := Lib.hid hadd
  have HKN := Lib.hid hkn
  have HT := Lib.hid hT
  clear hadd hkn hT
  go_enter Tryz.func8, Tryz.ntmps8
  go_wp2_with fail
  refine (new_any w).mono ?_
  rintro e w1 ⟨b, m, rfl, hb, hm, hd1, hk1⟩
  have hF1 : ∀ k, diskF b m #[] k → w.heap.size ≤ k := by
    rintro k (rfl | rfl | ⟨e, he, -⟩)
    · exact hb
    · exact hm
    · simp at he
  have hOP := mopen_any hd1 255 (by omega) (by omega) w.heap.size (HT.out.keptN hk1) hF1 hk1.size (by show (0 : Int) < _; omega) (by
    have h1 := openM_new (fileN 255)
    have h2 : (openJ (⟨[], 0, 0, false⟩ : DM) (fileN 255)).2.2.recs = [] := by
      unfold openJ
      rw [show DM.bytes (⟨[], 0, 0, false⟩ : DM) (fileN 255) = [] from rfl]
      unfold jOpen openOf
      simp [jGo]
    rw [h2]
    exact read_nil18)
  have hO : openM (⟨[], 0, 0, false⟩ : DM) (fileN 255) = (0, disk0, ⟨fileN 255, [], 0, false⟩, some ⟨fileN 255, [], [], 0, false⟩) := openM_new (fileN 255)
  rw [hO] at hOP
  have HOP := Lib.hid hOP
  have HF1 := Lib.hid hF1
  have HK1 := Lib.hid hk1
  clear hOP hO hF1 hb hm hd1 hk1
  go_wp2_with fail
  refine HOP.out.mono ?_
  rintro e w2 ⟨es', clk', hA2, -, hM⟩
  obtain ⟨-, a, rfl, hR, hab, ham, haes, hF, hP⟩ := hM _ rfl
  have hk2 : Kept (fun _ => False) w w2 := HK1.out.more hA2.kept (fun i hi => HF1.out i hi)
  have hFw : ∀ k, a.F k → w.heap.size ≤ k := fun k hk => by
    rcases hF k hk with h1 | h1
    · rcases hA2.foot k h1 with h2 | h2
      · exact HF1.out k h2
      · have := HK1.out.size; omega
    · have := HK1.out.size; omega
  obtain ⟨w3, hw3⟩ : ∃ X, w2.alloc (.cells #[.int .u64 7, .int .u64 0, .int .u64 3, .int .u64 9] 68) = X := ⟨_, rfl⟩
  have hk3 : Kept (fun _ => False) w2 w3 := by rw [← hw3]; exact (Kept.refl _ _).alloc _
  have hP3 : IsP w3 (.slice (some ⟨w2.heap.size, 0, none⟩) pairs18.length 2) pairs18 := by
    refine ⟨_, _, rfl, by simp [pairs18], by simp [maxLen], fun p hp => by simp [pairs18] at hp; rcases hp with rfl | rfl <;> simp, .inr ⟨w2.heap.size, 0, rfl, by rw [← hw3]; simp, fun i x hx => ?_⟩⟩
    rw [← hw3, World.cell?_alloc_new]
    simp only [pairs18, flatP, List.flatMap_cons, List.flatMap_nil, encP, List.append_nil, List.cons_append, List.nil_append] at hx
    match i, hx with
    | 0, hx => simpa using hx
    | 1, hx => simpa using hx
    | 2, hx => simpa using hx
    | 3, hx => simpa using hx
    | i + 4, hx => simp at hx
  have hAD := madd_any (hR.keptN hk3) (fun _ => rfl) w.heap.size (HT.out.keptN (hk2.trans hk3 (fun _ _ f => f))) hFw (hk2.trans hk3 (fun _ _ f => f)).size _ _ pairs18 hP3 (by simp [pairs18]) (by show 0 + 1 ≤ _; omega) ⟨by simp [JM.all], by simp, by simp⟩ (by show (0 : Int) < _; omega)
  rw [HADD.out] at hAD
  have HAD := Lib.hid hAD
  have HX := Lib.hid (And.intro hk2 (And.intro hk3 hFw))
  clear hAD hk2 hFw hP3 hR hF hP hA2 hM hk3 HOP
  go_wp2_with fail
  refine HAD.out.mono ?_
  rintro e w4 ⟨rfl, a', hR4, p1, p2, p3, p4, p5, -, -, hk4⟩
  have hS3 := standin_any hR4.mem 3
  have hS7 := standin_any hR4.mem 7
  have hS5 := standin_any hR4.mem 5
  have hLN := mlen_any hR4.mem
  rw [p1] at hS3 hS7 hS5 hLN
  rw [show (getA 3 M1.known) = some 9 by rw [HKN.out]; rfl] at hS3
  rw [show (getA 7 M1.known) = some 0 by rw [HKN.out]; rfl] at hS7
  rw [show (getA 5 M1.known) = none by rw [HKN.out]; rfl] at hS5
  rw [show M1.known.length = 2 by rw [HKN.out]; rfl] at hLN
  simp only [Option.getD_some, Option.getD_none, Option.isSome_some, Option.isSome_none] at hS3 hS7 hS5
  have hkf : Kept (fun _ => False) w w4 := (HX.out.1.trans HX.out.2.1 (fun _ _ f => f)).more hk4 (fun i hi => HX.out.2.2 i hi)
  have HKF := Lib.hid hkf
  clear hkf hk4 hR4
  go_wp2_with fail
  refine hS3.mono ?_
  rintro e w5 ⟨rfl, rfl⟩
  go_wp2_with fail
  refine hS7.mono ?_
  rintro e w6 ⟨rfl, rfl⟩
  go_wp2_with fail
  refine hS5.mono ?_
  rintro e w7 ⟨rfl, rfl⟩
  go_wp2_with (go_at_call 32; refine hLN.mono ?_; rintro e w9 ⟨rfl, rfl⟩)
  go_ret
  exact ⟨rfl, HKF.out⟩
end Go.Proofs.YtemilbemdlpkaaaGreatDoor

/- memo: what no memo answers. -/
namespace Go.Proofs.YtemilbemdlpkaaaGreatDoor
open Go.RowKit Go.ChangeMaps Go.MapKept
set_option linter.unusedSimpArgs false

theorem standinNil_any (w : World) (c : Int) : Calls Tryz.prog 29 #[.pointer none, .int .u64 c] w fun e w' => e = .returned (.tuple #[.int .u64 0, .bool false]) ∧ w' = w := by
  go_enter Tryz.func29, Tryz.ntmps29
  go_wp2_with fail
  go_ret2
  exact ⟨rfl, rfl⟩
theorem lenNil_any (w : World) : Calls Tryz.prog 32 #[.pointer none] w fun e w' => e = .returned (.int .i64 0) ∧ w' = w := by
  go_enter Tryz.func32, Tryz.ntmps32
  go_wp2_with fail
  go_ret
  exact ⟨rfl, rfl⟩
theorem runsNil_any (w : World) : Calls Tryz.prog 15 #[.pointer none] w fun e w' => e = .returned (.slice none 0 0) ∧ w' = w := by
  go_enter Tryz.func15, Tryz.ntmps15
  go_wp2_with fail
  go_ret
  exact ⟨rfl, rfl⟩
theorem addNil_any (w : World) (l : Value) : Calls Tryz.prog 12 #[.pointer none, l] w fun e w' => e = .returned (.int .i64 1) ∧ w' = w := by
  go_enter Tryz.func12, Tryz.ntmps12
  go_wp2_with fail
  go_ret
  exact ⟨rfl, rfl⟩
theorem openNil_any (w : World) (k : Int) : Calls Tryz.prog 10 #[.pointer none, .int .u64 k] w fun e w' => e = .returned (.tuple #[.pointer none, .int .i64 1]) ∧ w' = w := by
  go_enter Tryz.func10, Tryz.ntmps10
  go_wp2_with fail
  go_ret2
  exact ⟨rfl, rfl⟩
theorem openZero_any (w : World) (b : Nat) : Calls Tryz.prog 10 #[.pointer (some ⟨b, 0, none⟩), .int .u64 0] w fun e w' => e = .returned (.tuple #[.pointer none, .int .i64 2]) ∧ w' = w := by
  go_enter Tryz.func10, Tryz.ntmps10
  go_wp2_with fail
  go_ret2
  exact ⟨rfl, rfl⟩
theorem each_any18 (w : World) (m : Option Addr) : Calls Tryz.prog 30 #[.pointer m] w fun e w' => e = .returned (.func (.func 67) #[] #[.pointer (some ⟨w.heap.size, 0, none⟩)]) ∧ w' = w.alloc (.cells #[.pointer m] 29) := by
  go_enter Tryz.func30, Tryz.ntmps30
  go_wp2_with fail
  go_ret
  exact ⟨rfl, rfl⟩
theorem each1Nil_any (y : Value) (Bs : Nat) (w : World) (hb : w.cell? ⟨Bs, 0, none⟩ = some (.pointer none)) : Calls Tryz.prog 67 #[y, .pointer (some ⟨Bs, 0, none⟩)] w fun e w' => e = .returned (.tuple #[]) ∧ w' = w := by
  go_enter Tryz.func67, Tryz.ntmps67
  go_wp2_with fail
  refine bodyPost_ret (results_none rfl _ _ _) rfl ?_
  exact ⟨rfl, rfl⟩
theorem namesNil_any (w : World) : Calls Tryz.prog 24 #[.pointer none] w fun e w' => e = .returned (.slice none 0 0) ∧ w' = w := by
  go_enter Tryz.func24, Tryz.ntmps24
  go_wp2_with fail
  go_ret
  exact ⟨rfl, rfl⟩
theorem keysNil_any (w : World) : Calls Tryz.prog 33 #[.pointer none] w fun e w' => e = .returned (.slice none 0 0) ∧ Kept (fun _ => False) w w' := by
  go_enter Tryz.func33, Tryz.ntmps33
  go_wp2_with fail
  refine (namesNil_any _).mono ?_
  rintro e w1 ⟨rfl, rfl⟩
  go_wp2_with fail
  go_loopw [3, 13] (fun l i wr => wr = w1 ∧ l = .slice none 0 0 ∧ i = .int .i64 0) (fun _ _ _ => 0)
  case atStart => exact ⟨rfl, rfl, rfl⟩
  case round =>
    obtain ⟨rfl, rfl, rfl⟩ := hrel
    go_wp2_with fail
    go_ret
    exact ⟨rfl, Kept.refl _ _⟩
end Go.Proofs.YtemilbemdlpkaaaGreatDoor

/- memo: Sources of no memo. -/
namespace Go.Proofs.YtemilbemdlpkaaaGreatDoor
open Go.RowKit Go.Shelf
set_option linter.unusedSimpArgs false
attribute [local go_sem] Oper.semAt_some

theorem nameAct18 {P : Program} {c : Code} {Q : Exit → Act → World → Prop} {a : Act} {w : World} (h : ∀ A0, A0 = a → c.wp P Q A0 w) : c.wp P Q a w := h a rfl

def pairArgs18 (p : Nat × Nat) : Array Value := #[valP p]

/-- Each of no memo tells nothing. -/
theorem nilSeq18 {w : World} (n Bs : Nat) (h : w.heap[Bs]? = some (.cells #[.pointer none] 29 (0, 0))) (Kp : World → World → Prop) :
    SeqV n Tryz.prog 67 #[.pointer (some ⟨Bs, 0, none⟩)] pairArgs18 (fun _ _ => True) Kp (fun xs => xs = []) (fun _ => False) (fun _ _ => False) w := by
  intro l JJ Jx W hW hJ hY h0
  have hb := (hW.block Bs (Array.getElem?_eq_some_iff.1 h).1).trans h
  refine (callsIn_wide.2 (each1Nil_any (.func (.yield l) #[] #[]) Bs W (by simp [World.cell?, hb]))).mono ?_
  rintro e W' ⟨rfl, rfl⟩
  exact ⟨⟨_, rfl⟩, .inl ⟨[], rfl, h0⟩⟩

set_option maxRecDepth 100000 in
set_option maxHeartbeats 1000000 in
theorem sourcesNil_any (w : World) (s : Int) : Calls Tryz.prog 31 #[.pointer none, .int .u64 s] w fun e w' => e = .returned (.slice none 0 0) ∧ Kept (fun _ => False) w w' := by
  obtain ⟨W5, hW5⟩ : ∃ W, (w.alloc (.cells #[.int .u64 s] 35)).alloc (.cells #[.slice none 0 0] 75) = W := ⟨_, rfl⟩
  have hk5 : Kept (fun _ => False) w W5 := by rw [← hW5]; exact ((Kept.refl _ _).alloc _).alloc _
  have hs5 : W5.heap.size = w.heap.size + 2 := by rw [← hW5]; simp
  have hb5 : W5.heap[w.heap.size + 1]? = some (.cells #[.slice none 0 0] 75 (0, 0)) := by
    rw [← hW5]
    have h := World.alloc_heap_new (w.alloc (.cells #[.int .u64 s] 35)) (.cells #[.slice none 0 0] 75)
    rwa [World.size_alloc] at h
  have HW5 := Lib.hid hW5
  clear hW5
  refine (callsIn_wide (n := 5)).1 ?_
  refine callsIn_of_wp_marks Tryz.func31 rfl trivial ?_ rfl
  refine (wpIn_wide (n := 5)).2 ?_
  simp only [Tryz.ntmps31, List.size_toArray, List.length_cons, List.length_nil, Nat.reduceAdd, Nat.reduceSub, Array.replicate_succ, Array.replicate_zero, List.push_toArray, List.append_toArray, List.nil_append, List.cons_append]
  go_wp2_with fail
  rw [HW5.out]
  refine (each_any18 W5 none).mono ?_
  rintro e W6 ⟨rfl, hW6⟩
  have hk6 : Kept (fun _ => False) W5 W6 := by rw [hW6]; exact (Kept.refl _ _).alloc _
  have hs6 : W6.heap.size = w.heap.size + 3 := by rw [hW6]; simp [hs5]
  have hbs : W6.heap[w.heap.size + 2]? = some (.cells #[.pointer none] 29 (0, 0)) := by rw [hW6, ← hs5]; exact World.alloc_heap_new _ _
  have hb6 := (hk6.block _ (by omega) (fun f => f)).trans hb5
  have hk06 := hk5.more hk6 (fun _ f => f.elim)
  have HSEQ := Lib.hid (nilSeq18 4 (w.heap.size + 2) hbs (fun _ _ => True))
  rw [hs5]
  clear hW6 hk5 hk6 hbs hb5
  go_wp2_with fail
  refine nameAct18 ?_
  intro A0 hA0
  refine (wpIn_wide (n := 5)).1 ?_
  refine wpIn_rangeV (by omega) (gf := 67) (lb := #[.pointer (some ⟨w.heap.size + 2, 0, none⟩)]) (by rw [hA0]; simp [Act.eval]) (enters_of Tryz.func67 (by kernel_rfl) rfl) HSEQ.out (fun _ _ => trivial) (fun _ _ _ _ _ _ _ _ => trivial) (fun _ => rfl)
    (fun _ W => Kept (fun _ => False) W6 W)
    (fun _ _ _ => False) ?hI (fun _ _ _ _ _ hs _ _ => hs) (Kept.refl _ _) (fun _ _ _ _ _ _ _ => trivial) (fun x a' _ => True) (fun _ _ _ _ _ _ h _ _ => h) ?assign ?body ?done ?stop
  case hI =>
    rintro pre A B row hk hg hr
    exact hk.grown hg (fun k e hk => absurd (hr k e).1 (by omega))
  case assign =>
    rintro l' pre x W K hi hv hK
    obtain ⟨W', hW'⟩ : ∃ W', W.alloc (.cells #[.int .u64 x.1, .int .u64 x.2] 68) = W' := ⟨_, rfl⟩
    have hkA : Kept (fun _ => False) W W' := by rw [← hW']; exact (Kept.refl _ _).alloc _
    have HK := Lib.hid hK
    have HI := Lib.hid (hi.trans hkA (fun _ _ f => f))
    have HF : Hid (KeepsFrom W6.heap.size W W') := Lib.hid (by rw [← hW']; exact (KeepsOthers.alloc _ _).from _)
    clear hK hi hv hkA
    subst hA0
    unfold pairArgs18 valP
    gi_wp2
    exact HK.out _ W' HF.out trivial HI.out trivial trivial
  case body =>
    intro l' pre x a' W hl' hi hv ha hpre
    exact hpre.elim
  case done =>
    rintro D xs W hD rfl hk hK
    have hb7 := (hk.block _ (by omega) (fun f => f)).trans hb6
    have c7 : W.cell? ⟨w.heap.size + 1, 0, none⟩ = some (.slice none 0 0) := by simp [World.cell?, hb7]
    have HF := Lib.hid (And.intro hk hK)
    have HKW := Lib.hid hk06
    clear hk hK
    subst hA0
    go_wp2_with fail
    obtain ⟨hk, hK⟩ := HF.out
    refine ⟨by simp, .inl ⟨_, _, rfl, run_takeDeferred hK, ?_⟩⟩
    have hkD : Kept (· = D) W (W.putObj D (.deferred none)) := (Kept.refl _ _).grown (grownBy_putObj' W D (.deferred none)) (fun k e _ => by cases e; rfl)
    exact ⟨_, results_tmp rfl _ _ _, rfl, (HKW.out.more hk (fun _ f => f.elim)).more hkD (fun i (e : i = D) => by omega)⟩
  case stop =>
    rintro D cc pre W hD hS hf
    exact hf.elim

end Go.Proofs.YtemilbemdlpkaaaGreatDoor
