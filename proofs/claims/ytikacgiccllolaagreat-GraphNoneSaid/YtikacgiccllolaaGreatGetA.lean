/- store: Get and Commit over objects. -/
import Derived.Test.YtikacgiccllolaaGreatDecA
namespace Go.Proofs.YtikacgiccllolaaGreat
open Go.RowKit Go.ChangeMaps Go.MapKept

/-- An object. -/
inductive OM where
  | com (tree : Nat) (ps : List Nat) (date : Int)
  | blob (x : List UInt8)
  | empty
def OM.enc : OM → List UInt8
  | .com t ps d => encC t ps d
  | .blob x => 98 :: x
  | .empty => [116, 0]
def OM.Ok : OM → Prop
  | .com t ps d => t ≠ 0 ∧ t < 18446744073709551616 ∧ ps.length ≤ 8 ∧ 0 ∉ ps ∧ (∀ p ∈ ps, p < 18446744073709551616) ∧ -9223372036854775808 ≤ d ∧ d < 9223372036854775808
  | .blob x => x.length ≤ 4096
  | .empty => True
def OM.id (o : OM) : Nat := idB o.enc
def findO (os : List OM) (id : Nat) : Option OM := os.find? (fun o => decide (o.id = id))
theorem findO_rec (os : List OM) (id : Nat) : (os.map OM.enc).find? (fun r => decide (idB r = id)) = (findO os id).map OM.enc := by
  unfold findO
  rw [List.find?_map]
  rfl
theorem findO_mem {os : List OM} {id : Nat} {o : OM} (h : findO os id = some o) : o ∈ os ∧ o.id = id := by
  unfold findO at h
  exact ⟨List.mem_of_find?_eq_some h, by simpa using List.find?_some h⟩
/-- A commit, as the store gives it: tree, parents, date, error. -/
def comR (os : List OM) (id : Nat) : Nat × List Nat × Int × Int :=
  match findO os id with
  | none => (0, [], 0, 4)
  | some (.com t ps d) => (t, ps, d, 0)
  | some _ => (0, [], 0, 170)

/-- A store of objects. -/
def ObAt (w : World) (s : Nat) (F : Nat → Prop) (os : List OM) : Prop := ∃ D J, StoreAt w s F D J ∧ J.recs = os.map OM.enc ∧ ∀ o ∈ os, o.Ok
theorem ObAt.kept {w w' : World} {s : Nat} {F : Nat → Prop} {os : List OM} (h : ObAt w s F os) {G : Nat → Prop} (hk : Kept G w w') (hG : ∀ k, F k → ¬ G k) : ObAt w' s F os := by
  obtain ⟨D, J, h1, h2⟩ := h
  exact ⟨D, J, h1.kept hk hG, h2⟩
theorem ObAt.keptN {w w' : World} {s : Nat} {F : Nat → Prop} {os : List OM} (h : ObAt w s F os) (hk : Kept (fun _ => False) w w') : ObAt w' s F os := h.kept hk (fun _ _ f => f)
theorem ObAt.lt {w : World} {s : Nat} {F : Nat → Prop} {os : List OM} (h : ObAt w s F os) : ∀ k, F k → k < w.heap.size := by
  obtain ⟨D, J, h1, h2⟩ := h
  exact h1.lt

def getE (w w' : World) (e : Ending) : Option OM → Prop
  | none => e = .returned (.tuple #[.nilIface, .int .i64 4])
  | some (.com t ps d) => ∃ u, e = .returned (.tuple #[.iface 61 (comV t u d), .int .i64 0]) ∧ OwnI w.heap.size w' u ps
  | some (.blob x) => ∃ u, e = .returned (.tuple #[.iface 66 (.agg #[u]), .int .i64 0]) ∧ OwnB w' u x
  | some .empty => e = .returned (.tuple #[.iface 106 (.agg #[.slice none 0 0]), .int .i64 0])
theorem sget_any {w : World} {s : Nat} {F : Nat → Prop} {os : List OM} (h : ObAt w s F os) (id : Nat) :
    Calls Tryz.prog 27 #[.pointer (some ⟨s, 0, none⟩), .int .u64 id] w fun e w' => getE w w' e (findO os id) ∧ Kept (fun _ => False) w w' := by
  obtain ⟨D, J, ⟨j, b, m, m2, es, es2, clock, clock2, av, pv, iv, h1, -⟩, hr, hok⟩ := h
  have hB := sbytes_any h1 id
  rw [hr, findO_rec] at hB
  cases ho : findO os id with
  | none =>
    rw [ho] at hB
    clear h1 hr hok ho
    go_enter Tryz.func27, Tryz.ntmps27
    go_wp2_with fail
    refine hB.mono ?_
    rintro e w1 ⟨rfl, rfl⟩
    go_wp2
    go_ret2
    exact ⟨rfl, Kept.refl _ _⟩
  | some o =>
    rw [ho] at hB
    have hO := hok o (findO_mem ho).1
    clear h1 hr hok ho
    simp only [Option.map_some] at hB
    go_enter Tryz.func27, Tryz.ntmps27
    go_wp2_with fail
    refine hB.mono ?_
    rintro e w1 ⟨v, rfl, hf⟩
    cases o with
    | com t ps d =>
      obtain ⟨q1, q2, q3, q4, q5, q6, q7⟩ := hO
      have hD := Lib.hid (decode_commit w1 v t ps d hf.own.isB q1 q2 q3 q4 q5 q6 q7)
      have HS := Lib.hid hf.kept
      clear hf q1 q2 q3 q4 q5 q6 q7 hB
      go_wp2_with fail
      refine hD.out.mono ?_
      rintro e w2 ⟨u, rfl, ho, hk⟩
      go_wp2
      go_ret2
      exact ⟨⟨u, rfl, ho.low HS.out.size⟩, HS.out.more hk (fun _ f => f.elim)⟩
    | blob x =>
      have hD := Lib.hid (decode_blob w1 v x hf.own.isB hO)
      have HS := Lib.hid hf.kept
      clear hf hB hO
      go_wp2_with fail
      refine hD.out.mono ?_
      rintro e w2 ⟨u, rfl, hf2⟩
      go_wp2
      go_ret2
      exact ⟨⟨u, rfl, hf2.own⟩, HS.out.more hf2.kept (fun _ f => f.elim)⟩
    | empty =>
      have hD := Lib.hid (decode_tree0 w1 v hf.own.isB)
      have HS := Lib.hid hf.kept
      clear hf hB hO
      go_wp2_with fail
      refine hD.out.mono ?_
      rintro e w2 ⟨rfl, hk⟩
      go_wp2
      go_ret2
      exact ⟨rfl, HS.out.more hk (fun _ f => f.elim)⟩
end Go.Proofs.YtikacgiccllolaaGreat

/- store: Commit over objects. -/
namespace Go.Proofs.YtikacgiccllolaaGreat
open Go.RowKit Go.ChangeMaps Go.MapKept

def fillW (w : World) (C tree : Nat) (v : Value) (date : Int) : World := ((((w.setCell ⟨C, 0, none⟩ (.int .u64 tree)).setCell ⟨C, 1, none⟩ v).setCell ⟨C, 2, none⟩ (.string { data := #[] })).setCell ⟨C, 3, none⟩ (.int .i64 date)).setCell ⟨C, 4, none⟩ (.string { data := #[] })
theorem ComAt.fill {w : World} {C t0 : Nat} {v0 : Value} {d0 : Int} (h : ComAt w C t0 v0 d0) (tree : Nat) (v : Value) (date : Int) : ComAt (fillW w C tree v date) C tree v date ∧ Kept (· = C) w (fillW w C tree v date) := by
  have r1 := heap_setCell_row (o := 0) h (.int .u64 tree)
  have r2 := heap_setCell_row (o := 1) r1 v
  have r3 := heap_setCell_row (o := 2) r2 (.string { data := #[] })
  have r4 := heap_setCell_row (o := 3) r3 (.int .i64 date)
  have r5 := heap_setCell_row (o := 4) r4 (.string { data := #[] })
  refine ⟨r5, ?_⟩
  exact (((((Kept.refl (· = C) w).setCell (p := ⟨C, 0, none⟩) (fun _ => rfl) _).setCell (p := ⟨C, 1, none⟩) (fun _ => rfl) _).setCell (p := ⟨C, 2, none⟩) (fun _ => rfl) _).setCell (p := ⟨C, 3, none⟩) (fun _ => rfl) _).setCell (p := ⟨C, 4, none⟩) (fun _ => rfl) _

set_option maxRecDepth 100000 in
theorem scommit_any {w : World} {s : Nat} {F : Nat → Prop} {os : List OM} (h : ObAt w s F os) (id : Nat) :
    Calls Tryz.prog 25 #[.pointer (some ⟨s, 0, none⟩), .int .u64 id] w fun e w' => ∃ u, e = .returned (.tuple #[comV (comR os id).1 u (comR os id).2.2.1, .int .i64 (comR os id).2.2.2]) ∧ OwnI w.heap.size w' u (comR os id).2.1 ∧ Kept (fun _ => False) w w' := by
  obtain ⟨w0, hw0⟩ : ∃ w0, w.alloc (.cells #[.int .u64 0, .slice none 0 0, .string { data := #[] }, .int .i64 0, .string { data := #[] }] 61) = w0 := ⟨_, rfl⟩
  have hk0 : Kept (fun _ => False) w w0 := by rw [← hw0]; exact (Kept.refl _ _).alloc _
  have hc0 : ComAt w0 w.heap.size 0 (.slice none 0 0) 0 := by rw [← hw0]; exact heap_alloc_new _ _
  have hG := Lib.hid (sget_any (h.keptN hk0) id)
  have HK0 := Lib.hid hk0
  have HC0 := Lib.hid hc0
  have HS0 : Hid (w0.heap.size = w.heap.size + 1) := Lib.hid (by rw [← hw0]; simp)
  clear h hk0 hc0
  cases ho : findO os id with
  | none =>
    have hR : comR os id = (0, [], 0, 4) := by unfold comR; rw [ho]
    rw [hR]
    rw [ho] at hG
    clear hR ho
    simp only
    go_enter Tryz.func25, Tryz.ntmps25
    go_wp2_with fail
    refine hG.out.mono ?_
    rintro e w1 ⟨hg, hk1⟩
    obtain rfl := hg
    have hC1 := HC0.out.kept hk1 (fun f => f)
    have HF := Lib.hid (hC1.fill 0 (.slice none 0 0) 0)
    have HKK := Lib.hid hk1
    have ⟨c0, c1, c2, c3, c4, cf⟩ := hC1.cells
    have f0 := cf 0
    have f1 := cf 1
    have f2 := cf 2
    have f3 := cf 3
    have f4 := cf 4
    clear cf hC1 hk1
    go_wp2
    have hC5 := HF.out.1
    unfold fillW at hC5 HF
    generalize (World.setCell (World.setCell (World.setCell (World.setCell (World.setCell _ _ _) _ _) _ _) _ _) _ _) = W5 at *
    have L1 := run_loadVar_row (P := Tryz.prog) W5 w.heap.size 61 61 _ (0, 0) _ hC5 Tryz.underlying61 rfl (by kernel_rfl)
    refine bodyPost_ret (v := .tuple #[comV 0 (.slice none 0 0) 0, .int .i64 4]) (by simp [comV, results, Tryz.f25, asAddr, L1, Result.andThen]) rfl ?_
    exact ⟨_, rfl, OwnI.none _ _, (HK0.out.more HKK.out (fun _ f => f.elim)).more HF.out.2 (fun i e => Nat.le_of_eq e.symm)⟩
  | some o =>
    cases o with
    | com t ps d =>
      have hR : comR os id = (t, ps, d, 0) := by unfold comR; rw [ho]
      rw [hR]
      rw [ho] at hG
      clear hR ho
      simp only
      go_enter Tryz.func25, Tryz.ntmps25
      go_wp2_with fail
      refine hG.out.mono ?_
      rintro e wg ⟨⟨u, rfl, hu⟩, hkg⟩
      obtain ⟨ua, uc, rfl, -, -⟩ := hu.form
      have tc : ∀ w, (Instr.typeAssert (.iface 61 (comV t (.slice ua ps.length uc) d)) 63 61 true).run Tryz.prog w = .ok (.tuple #[comV t (.slice ua ps.length uc) d, .bool true]) w := fun w => ta_yes Tryz.underlying61 _ w
      obtain ⟨w1, hw1⟩ : ∃ w1, wg.alloc (.cells #[.int .u64 t, (.slice ua ps.length uc), .string { data := #[] }, .int .i64 d, .string { data := #[] }] 61) = w1 := ⟨_, rfl⟩
      have hkA : Kept (fun _ => False) wg w1 := by rw [← hw1]; exact (Kept.refl _ _).alloc _
      have hk1 := hkg.more hkA (fun _ f => f.elim)
      have hC1 := HC0.out.kept hk1 (fun f => f)
      have hA1 : ComAt w1 wg.heap.size t (.slice ua ps.length uc) d := by rw [← hw1]; exact heap_alloc_new _ _
      have ⟨a0, a1, a2, a3, a4, _⟩ := hA1.cells
      have HF := Lib.hid (hC1.fill t (.slice ua ps.length uc) d)
      have HKK := Lib.hid hk1
      have HU := Lib.hid (hu.keptF hkA (fun _ _ f => f))
      have hne : ¬ w.heap.size = wg.heap.size := by have := hkg.size; have := HS0.out; omega
      unfold comV at *
      have ⟨c0, c1, c2, c3, c4, cf⟩ := hC1.cells
      have f0 := cf 0
      have f1 := cf 1
      have f2 := cf 2
      have f3 := cf 3
      have f4 := cf 4
      clear cf hC1 hk1
      clear hkA hA1 hkg hu
      subst hw1
      go_wp2
      have hC5 := HF.out.1
      unfold fillW at hC5 HF
      generalize (World.setCell (World.setCell (World.setCell (World.setCell (World.setCell _ _ _) _ _) _ _) _ _) _ _) = W5 at *
      have L1 := run_loadVar_row (P := Tryz.prog) W5 w.heap.size 61 61 _ (0, 0) _ hC5 Tryz.underlying61 rfl (by kernel_rfl)
      refine bodyPost_ret (v := .tuple #[comV t (.slice ua ps.length uc) d, .int .i64 0]) (by simp [comV, results, Tryz.f25, asAddr, L1, Result.andThen]) rfl ?_
      exact ⟨_, rfl, (HU.out.low (by have := HS0.out; omega)).keptF HF.out.2 (fun g e e2 => by have := (HU.out.base e).1; have := HS0.out; omega), (HK0.out.more HKK.out (fun _ f => f.elim)).more HF.out.2 (fun i e => Nat.le_of_eq e.symm)⟩
    | blob x =>
      have hR : comR os id = (0, [], 0, 170) := by unfold comR; rw [ho]
      rw [hR]
      rw [ho] at hG
      clear hR ho
      simp only
      go_enter Tryz.func25, Tryz.ntmps25
      go_wp2_with fail
      refine hG.out.mono ?_
      rintro e wg ⟨hge, hkg⟩
      obtain ⟨u, rfl, hu⟩ := hge
      clear hu
      have tc : ∀ w, (Instr.typeAssert (.iface 66 (.agg #[u])) 63 61 true).run Tryz.prog w = .ok (.tuple #[.agg #[.int .u64 0, .slice none 0 0, .string { data := #[] }, .int .i64 0, .string { data := #[] }], .bool false]) w := fun w => ta_no Tryz.underlying61 (by decide) zero_commit _ w
      obtain ⟨w1, hw1⟩ : ∃ w1, wg.alloc (.cells #[.int .u64 0, .slice none 0 0, .string { data := #[] }, .int .i64 0, .string { data := #[] }] 61) = w1 := ⟨_, rfl⟩
      have hkA : Kept (fun _ => False) wg w1 := by rw [← hw1]; exact (Kept.refl _ _).alloc _
      have hk1 := hkg.more hkA (fun _ f => f.elim)
      have hC1 := HC0.out.kept hk1 (fun f => f)
      have HF := Lib.hid (hC1.fill 0 (.slice none 0 0) 0)
      have HKK := Lib.hid hk1
      have hne : ¬ w.heap.size = wg.heap.size := by have := hkg.size; have := HS0.out; omega
      have ⟨c0, c1, c2, c3, c4, cf⟩ := hC1.cells
      have f0 := cf 0
      have f1 := cf 1
      have f2 := cf 2
      have f3 := cf 3
      have f4 := cf 4
      clear cf hC1 hk1
      clear hkA hkg
      subst hw1
      go_wp2
      have hC5 := HF.out.1
      unfold fillW at hC5 HF
      generalize (World.setCell (World.setCell (World.setCell (World.setCell (World.setCell _ _ _) _ _) _ _) _ _) _ _) = W5 at *
      have L1 := run_loadVar_row (P := Tryz.prog) W5 w.heap.size 61 61 _ (0, 0) _ hC5 Tryz.underlying61 rfl (by kernel_rfl)
      refine bodyPost_ret (v := .tuple #[comV 0 (.slice none 0 0) 0, .int .i64 170]) (by simp [comV, results, Tryz.f25, asAddr, L1, Result.andThen]) rfl ?_
      exact ⟨_, rfl, OwnI.none _ _, (HK0.out.more HKK.out (fun _ f => f.elim)).more HF.out.2 (fun i e => Nat.le_of_eq e.symm)⟩
    | empty =>
      have hR : comR os id = (0, [], 0, 170) := by unfold comR; rw [ho]
      rw [hR]
      rw [ho] at hG
      clear hR ho
      simp only
      go_enter Tryz.func25, Tryz.ntmps25
      go_wp2_with fail
      refine hG.out.mono ?_
      rintro e wg ⟨hge, hkg⟩
      obtain rfl := hge
      have tc : ∀ w, (Instr.typeAssert (.iface 106 (.agg #[.slice none 0 0])) 63 61 true).run Tryz.prog w = .ok (.tuple #[.agg #[.int .u64 0, .slice none 0 0, .string { data := #[] }, .int .i64 0, .string { data := #[] }], .bool false]) w := fun w => ta_no Tryz.underlying61 (by decide) zero_commit _ w
      obtain ⟨w1, hw1⟩ : ∃ w1, wg.alloc (.cells #[.int .u64 0, .slice none 0 0, .string { data := #[] }, .int .i64 0, .string { data := #[] }] 61) = w1 := ⟨_, rfl⟩
      have hkA : Kept (fun _ => False) wg w1 := by rw [← hw1]; exact (Kept.refl _ _).alloc _
      have hk1 := hkg.more hkA (fun _ f => f.elim)
      have hC1 := HC0.out.kept hk1 (fun f => f)
      have HF := Lib.hid (hC1.fill 0 (.slice none 0 0) 0)
      have HKK := Lib.hid hk1
      have hne : ¬ w.heap.size = wg.heap.size := by have := hkg.size; have := HS0.out; omega
      have ⟨c0, c1, c2, c3, c4, cf⟩ := hC1.cells
      have f0 := cf 0
      have f1 := cf 1
      have f2 := cf 2
      have f3 := cf 3
      have f4 := cf 4
      clear cf hC1 hk1
      clear hkA hkg
      subst hw1
      go_wp2
      have hC5 := HF.out.1
      unfold fillW at hC5 HF
      generalize (World.setCell (World.setCell (World.setCell (World.setCell (World.setCell _ _ _) _ _) _ _) _ _) _ _) = W5 at *
      have L1 := run_loadVar_row (P := Tryz.prog) W5 w.heap.size 61 61 _ (0, 0) _ hC5 Tryz.underlying61 rfl (by kernel_rfl)
      refine bodyPost_ret (v := .tuple #[comV 0 (.slice none 0 0) 0, .int .i64 170]) (by simp [comV, results, Tryz.f25, asAddr, L1, Result.andThen]) rfl ?_
      exact ⟨_, rfl, OwnI.none _ _, (HK0.out.more HKK.out (fun _ f => f.elim)).more HF.out.2 (fun i e => Nat.le_of_eq e.symm)⟩
end Go.Proofs.YtikacgiccllolaaGreat
