/- espalierlaw02.script. -/
import Derived.Test.YtjnhkepgoghogaaDoorEqual
import Derived.Test.YtjnhkepgoghogaaDoorDiskE
import Derived.Maps.AppendAt
namespace Go.Proofs.YtjnhkepgoghogaaDoor
open Go.RowKit Go.ChangeMaps Go.MapKept

/-- An operation of a script, and where its bytes lie. -/
structure OpV where
  kind : Int
  name : ByteArray
  to : ByteArray
  n : Int
  bytes : List UInt8
  ba : Option Addr
  bc : Nat

def OpV.bv (o : OpV) : Value := .slice o.ba o.bytes.length o.bc
def OpV.cells (o : OpV) : List Value := [.int .i64 o.kind, .string o.name, .string o.to, .int .i64 o.n, .slice o.ba o.bytes.length o.bc]
def flatO (l : List OpV) : List Value := l.flatMap OpV.cells
/-- What script makes of an operation. -/
def OpV.short (o : OpV) : OpV := if o.bytes.length ≤ 4194304 then { o with bytes := o.bytes.take 300 } else o

theorem flatO_length (l : List OpV) : (flatO l).length = l.length * 5 := by
  induction l with
  | nil => rfl
  | cons o l ih => simp only [flatO, List.flatMap_cons, List.length_append, List.length_cons] at *; rw [ih]; simp [OpV.cells]; omega

theorem flatO_append (l l' : List OpV) : flatO (l ++ l') = flatO l ++ flatO l' := by simp [flatO]

theorem flatO_get (l : List OpV) (k j : Nat) (hk : k < l.length) (hj : j < 5) : (flatO l)[k * 5 + j]? = (l[k].cells)[j]? := by
  induction l generalizing k with
  | nil => simp at hk
  | cons o l ih =>
    cases k with
    | zero =>
      simp only [flatO, List.flatMap_cons, Nat.zero_mul, Nat.zero_add, List.getElem_cons_zero]
      rw [List.getElem?_append_left (by simp [OpV.cells]; omega)]
    | succ k =>
      simp only [flatO, List.flatMap_cons, List.getElem_cons_succ]
      rw [List.getElem?_append_right (by simp [OpV.cells]; omega)]
      have : (k + 1) * 5 + j - o.cells.length = k * 5 + j := by simp [OpV.cells]; omega
      rw [this]
      exact ih k (by simpa using hk)

/-- Operations that lie in memory. -/
structure InOps (w : World) (a : Option Addr) (n c : Nat) (l : List OpV) : Prop where
  len : n = l.length
  le : n ≤ c
  cap : c ≤ maxLen
  at_ : l = [] ∨ ∃ g o, a = some ⟨g, o, none⟩ ∧ ∀ i x, (flatO l)[i]? = some x → w.cell? ⟨g, o + i, none⟩ = some x
  ok : ∀ o ∈ l, IsB w o.bv o.bytes ∧ o.name.size ≤ maxLen ∧ o.to.size ≤ maxLen ∧ -9223372036854775808 ≤ o.kind ∧ o.kind ≤ 9223372036854775807 ∧ -9223372036854775808 ≤ o.n ∧ o.n ≤ 9223372036854775807

theorem Tryd.info34 : (Tryd.prog.info? 34).map (fun i => (i.zero, i.size, i.bytes)) = some (some (.agg #[.int .i64 0, .string .empty, .string .empty, .int .i64 0, .slice none 0 0]), 5, 72) := by kernel_rfl

theorem ownsRow_keptN {w w' : World} {b : Nat} {t k : Nat} {v : Value} {n : Nat} {l : List Value} (h : w.ownsRow b t k v n l) (hk : Kept (fun _ => False) w w') : w'.ownsRow b t k v n l :=
  World.ownsRow.kept h (hk.grownBy none) (by cases v.ownBlock <;> simp)


set_option maxRecDepth 100000 in
set_option maxHeartbeats 1000000 in
theorem script_any (w : World) (a : Option Addr) (c : Nat) (l : List OpV) (h : InOps w a l.length c l) :
    Calls Tryd.prog 10 #[.slice a l.length c] w fun e w' => ∃ v, e = .returned v ∧ w'.ownsRow w.heap.size 34 5 v ((l.take 60).map OpV.short).length (flatO ((l.take 60).map OpV.short)) ∧ Kept (fun _ => False) w w' := by
  have hlm : l.length ≤ 9223372036854775807 := by have h1 := h.le; have h2 := h.cap; unfold maxLen at h2; omega
  obtain ⟨i0, hi, hz0, hz1, hz2⟩ := info_parts Tryd.info34
  go_enter Tryd.func10, Tryd.ntmps10
  go_wp2_with fail
  go_loopw [8, 3] (fun i v wr => ∃ k : Nat, k ≤ l.length ∧ k ≤ 60 ∧ i = .int .i64 k ∧ Hid (wr.ownsRow w.heap.size 34 5 v ((l.take k).map OpV.short).length (flatO ((l.take k).map OpV.short))) ∧ Kept (fun _ => False) w wr) (fun i _ _ => l.length - (intOf i).toNat)
  case atStart => exact ⟨0, Nat.zero_le _, by omega, rfl, World.ownsRow_nil _ _ _ _, Kept.refl _ _⟩
  case round =>
    obtain ⟨k, hkn, hk60, rfl, hown, hkr⟩ := hrel
    by_cases hlt : k < l.length
    · obtain ⟨o, ho⟩ : ∃ o, l[k] = o := ⟨_, rfl⟩
      have hne : l ≠ [] := fun e => by rw [e] at hlt; simp at hlt
      obtain ⟨g, off, rfl, hcells⟩ := h.at_.resolve_left hne
      have hc0 : wr.cell? ⟨g, off + k * 5, none⟩ = some (.int .i64 o.kind) := hkr.cell (hcells (k * 5) _ (by have := flatO_get l k 0 hlt (by omega); rw [ho] at this; exact this)) (fun h => h)
      have hc1 : wr.cell? ⟨g, off + k * 5 + 1, none⟩ = some (.string o.name) := hkr.cell (by rw [Nat.add_assoc]; exact hcells (k * 5 + 1) _ (by have := flatO_get l k 1 hlt (by omega); rw [ho] at this; exact this)) (fun h => h)
      have hc2 : wr.cell? ⟨g, off + k * 5 + 2, none⟩ = some (.string o.to) := hkr.cell (by rw [Nat.add_assoc]; exact hcells (k * 5 + 2) _ (by have := flatO_get l k 2 hlt (by omega); rw [ho] at this; exact this)) (fun h => h)
      have hc3 : wr.cell? ⟨g, off + k * 5 + 3, none⟩ = some (.int .i64 o.n) := hkr.cell (by rw [Nat.add_assoc]; exact hcells (k * 5 + 3) _ (by have := flatO_get l k 3 hlt (by omega); rw [ho] at this; exact this)) (fun h => h)
      have hc4 : wr.cell? ⟨g, off + k * 5 + 4, none⟩ = some (.slice o.ba o.bytes.length o.bc) := hkr.cell (by rw [Nat.add_assoc]; exact hcells (k * 5 + 4) _ (by have := flatO_get l k 4 hlt (by omega); rw [ho] at this; exact this)) (fun h => h)
      clear hcells
      have hok := h.ok o (by rw [← ho]; exact List.getElem_mem _)
      by_cases h60 : k = 60
      · have hb60 : ((k : Int) == 60) = true := by simp [h60]
        have H60 := Lib.hid h60
        clear h60
        go_wp2_with fail
        go_ret
        refine ⟨_, rfl, ?_, hkr.alloc _⟩
        rw [H60.out] at hown
        exact hown.out.alloc _
      · have hb60 : ((k : Int) == 60) = false := by simp; omega
        have hB := hok.1.keptF hkr (fun _ _ h => h)
        have hble : o.bytes.length ≤ o.bc := by obtain ⟨_, _, e5, h5, _⟩ := hB; cases e5; exact h5
        by_cases hbig : o.bytes.length ≤ 4194304
        · obtain ⟨mm, hmm, hmx⟩ : ∃ mm : Nat, (if (300 : Int) < (o.bytes.length : Int) then (300 : Int) else (o.bytes.length : Int)) = (mm : Int) ∧ mm = (o.bytes.take 300).length := ⟨(o.bytes.take 300).length, by rw [List.length_take]; split <;> omega, rfl⟩
          have hmle : mm ≤ o.bytes.length := by rw [hmx, List.length_take]; omega
          have HSH := Lib.hid (show o.short = { o with bytes := o.bytes.take 300 } from by unfold OpV.short; rw [if_pos hbig])
          have HMX := Lib.hid hmx
          obtain ⟨hsl, -⟩ := bytes_high hB hmle
          clear hmx
          have hcl : o.short.cells = [.int .i64 o.kind, .string o.name, .string o.to, .int .i64 o.n, .slice o.ba mm o.bc] := (by rw [HSH.out, HMX.out]; rfl)
          obtain ⟨wA, hwA, hkA, hszA, hcA⟩ : ∃ wA, wr.alloc (.cells #[.int .i64 o.kind, .string o.name, .string o.to, .int .i64 o.n, .slice o.ba mm o.bc] 34) = wA ∧ Kept (fun _ => False) wr wA ∧ wA.heap.size = wr.heap.size + 1 ∧ ∀ j u, o.short.cells[j]? = some u → wA.cell? ((⟨wr.heap.size, 0, none⟩ : Addr).add j) = some u :=
            ⟨_, rfl, (Kept.refl _ _).alloc _, by simp, fun j u hu => by rw [addr_add, Nat.zero_add, World.cell?_alloc_new]; rw [hcl] at hu; simpa using hu⟩
          have hA0 : wA.cell? ⟨wr.heap.size, 0, none⟩ = some (.int .i64 o.kind) := by have := hcA 0 (.int .i64 o.kind) (by rw [hcl]; rfl); simpa [addr_add] using this
          have hA1 : wA.cell? ⟨wr.heap.size, 1, none⟩ = some (.string o.name) := by have := hcA 1 (.string o.name) (by rw [hcl]; rfl); simpa [addr_add] using this
          have hA2 : wA.cell? ⟨wr.heap.size, 2, none⟩ = some (.string o.to) := by have := hcA 2 (.string o.to) (by rw [hcl]; rfl); simpa [addr_add] using this
          have hA3 : wA.cell? ⟨wr.heap.size, 3, none⟩ = some (.int .i64 o.n) := by have := hcA 3 (.int .i64 o.n) (by rw [hcl]; rfl); simpa [addr_add] using this
          have hA4 : wA.cell? ⟨wr.heap.size, 4, none⟩ = some (.slice o.ba mm o.bc) := by have := hcA 4 (.slice o.ba mm o.bc) (by rw [hcl]; rfl); simpa [addr_add] using this
          clear hcA
          obtain ⟨wB, hwB, hkB, hszB, hcB⟩ : ∃ wB, wA.alloc (.cells #[.int .i64 o.kind, .string o.name, .string o.to, .int .i64 o.n, .slice o.ba mm o.bc] 34) = wB ∧ Kept (fun _ => False) wA wB ∧ wB.heap.size = wA.heap.size + 1 ∧ ∀ j u, o.short.cells[j]? = some u → wB.cell? ((⟨wA.heap.size, 0, none⟩ : Addr).add j) = some u :=
            ⟨_, rfl, (Kept.refl _ _).alloc _, by simp, fun j u hu => by rw [addr_add, Nat.zero_add, World.cell?_alloc_new]; rw [hcl] at hu; simpa using hu⟩
          have hkAB : Kept (fun _ => False) wr wB := hkA.more hkB (fun _ h => h.elim)
          have hownB := ownsRow_keptN hown.out hkAB
          obtain ⟨v', w', hrun, ho2, hg2, -, hb2⟩ := run_append_own_at (P := Tryd.prog) wB w.heap.size 22 22 34 i0 _ 5 72 Tryd.underlying22 hi hz0 hz1 hz2 rfl (by decide) _ _ _ hownB ⟨wA.heap.size, 0, none⟩ 1 1 o.short.cells (by simp [OpV.cells]) hcB (by intro u hu; rw [hcl] at hu; simp at hu; rcases hu with rfl | rfl | rfl | rfl | rfl <;> rfl) (by simp; unfold maxLen; omega) (by simp; omega) (by have := hkAB.size; have := hkr.size; omega)
          have hstep : (l.take (k + 1)).map OpV.short = (l.take k).map OpV.short ++ [o.short] := by rw [List.take_succ_eq_append_getElem hlt, List.map_append, ho]; rfl
          have hkw : Kept (fun _ => False) w w' := (hkr.more hkAB (fun _ h => h.elim)).more (Kept.grown (F := fun k => w.heap.size ≤ k) (Kept.refl _ _) hg2 (fun k hk _ => (World.ownsRow.lt hown.out k hk).1)) (fun _ h => h)
          rw [hszA] at hrun
          have HO2 := Lib.hid ho2
          have HST := Lib.hid hstep
          clear ho2 hstep hg2 hb2 hownB
          go_wp2_with (at_builtin; refine wpList_append_run rfl (.tmp 27) (.tmp 29) #[22, 22] rfl _ _ _ _ rfl rfl hrun ?_)
          go_roundw
          case rel =>
            refine ⟨k + 1, by omega, by omega, by go_num, ?_, hkw⟩
            show World.ownsRow _ _ _ _ _ _ _
            rw [HST.out, flatO_append]
            have := HO2.out
            simpa [flatO] using this
          case measure => simp [intOf]; omega
        · have HSH := Lib.hid (show o.short = o from by unfold OpV.short; rw [if_neg hbig])
          have hmm := trivial
          have hsl := trivial
          have hcl : o.short.cells = [.int .i64 o.kind, .string o.name, .string o.to, .int .i64 o.n, .slice o.ba o.bytes.length o.bc] := (by rw [HSH.out]; rfl)
          obtain ⟨wA, hwA, hkA, hszA, hcA⟩ : ∃ wA, wr.alloc (.cells #[.int .i64 o.kind, .string o.name, .string o.to, .int .i64 o.n, .slice o.ba o.bytes.length o.bc] 34) = wA ∧ Kept (fun _ => False) wr wA ∧ wA.heap.size = wr.heap.size + 1 ∧ ∀ j u, o.short.cells[j]? = some u → wA.cell? ((⟨wr.heap.size, 0, none⟩ : Addr).add j) = some u :=
            ⟨_, rfl, (Kept.refl _ _).alloc _, by simp, fun j u hu => by rw [addr_add, Nat.zero_add, World.cell?_alloc_new]; rw [hcl] at hu; simpa using hu⟩
          have hA0 : wA.cell? ⟨wr.heap.size, 0, none⟩ = some (.int .i64 o.kind) := by have := hcA 0 (.int .i64 o.kind) (by rw [hcl]; rfl); simpa [addr_add] using this
          have hA1 : wA.cell? ⟨wr.heap.size, 1, none⟩ = some (.string o.name) := by have := hcA 1 (.string o.name) (by rw [hcl]; rfl); simpa [addr_add] using this
          have hA2 : wA.cell? ⟨wr.heap.size, 2, none⟩ = some (.string o.to) := by have := hcA 2 (.string o.to) (by rw [hcl]; rfl); simpa [addr_add] using this
          have hA3 : wA.cell? ⟨wr.heap.size, 3, none⟩ = some (.int .i64 o.n) := by have := hcA 3 (.int .i64 o.n) (by rw [hcl]; rfl); simpa [addr_add] using this
          have hA4 : wA.cell? ⟨wr.heap.size, 4, none⟩ = some (.slice o.ba o.bytes.length o.bc) := by have := hcA 4 (.slice o.ba o.bytes.length o.bc) (by rw [hcl]; rfl); simpa [addr_add] using this
          clear hcA
          obtain ⟨wB, hwB, hkB, hszB, hcB⟩ : ∃ wB, wA.alloc (.cells #[.int .i64 o.kind, .string o.name, .string o.to, .int .i64 o.n, .slice o.ba o.bytes.length o.bc] 34) = wB ∧ Kept (fun _ => False) wA wB ∧ wB.heap.size = wA.heap.size + 1 ∧ ∀ j u, o.short.cells[j]? = some u → wB.cell? ((⟨wA.heap.size, 0, none⟩ : Addr).add j) = some u :=
            ⟨_, rfl, (Kept.refl _ _).alloc _, by simp, fun j u hu => by rw [addr_add, Nat.zero_add, World.cell?_alloc_new]; rw [hcl] at hu; simpa using hu⟩
          have hkAB : Kept (fun _ => False) wr wB := hkA.more hkB (fun _ h => h.elim)
          have hownB := ownsRow_keptN hown.out hkAB
          obtain ⟨v', w', hrun, ho2, hg2, -, hb2⟩ := run_append_own_at (P := Tryd.prog) wB w.heap.size 22 22 34 i0 _ 5 72 Tryd.underlying22 hi hz0 hz1 hz2 rfl (by decide) _ _ _ hownB ⟨wA.heap.size, 0, none⟩ 1 1 o.short.cells (by simp [OpV.cells]) hcB (by intro u hu; rw [hcl] at hu; simp at hu; rcases hu with rfl | rfl | rfl | rfl | rfl <;> rfl) (by simp; unfold maxLen; omega) (by simp; omega) (by have := hkAB.size; have := hkr.size; omega)
          have hstep : (l.take (k + 1)).map OpV.short = (l.take k).map OpV.short ++ [o.short] := by rw [List.take_succ_eq_append_getElem hlt, List.map_append, ho]; rfl
          have hkw : Kept (fun _ => False) w w' := (hkr.more hkAB (fun _ h => h.elim)).more (Kept.grown (F := fun k => w.heap.size ≤ k) (Kept.refl _ _) hg2 (fun k hk _ => (World.ownsRow.lt hown.out k hk).1)) (fun _ h => h)
          rw [hszA] at hrun
          have HO2 := Lib.hid ho2
          have HST := Lib.hid hstep
          clear ho2 hstep hg2 hb2 hownB
          go_wp2_with (at_builtin; refine wpList_append_run rfl (.tmp 27) (.tmp 29) #[22, 22] rfl _ _ _ _ rfl rfl hrun ?_)
          go_roundw
          case rel =>
            refine ⟨k + 1, by omega, by omega, by go_num, ?_, hkw⟩
            show World.ownsRow _ _ _ _ _ _ _
            rw [HST.out, flatO_append]
            have := HO2.out
            simpa [flatO] using this
          case measure => simp [intOf]; omega
    · go_wp2
      go_ret
      have e1 : l.take k = l.take 60 := by rw [List.take_of_length_le (by omega), List.take_of_length_le (by omega)]
      refine ⟨_, rfl, ?_, hkr⟩
      rw [← e1]
      exact hown.out
end Go.Proofs.YtjnhkepgoghogaaDoor
