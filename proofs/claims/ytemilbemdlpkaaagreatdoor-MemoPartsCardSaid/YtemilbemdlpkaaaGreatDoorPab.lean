/- append of bytes, whatever the source; laws at an operation out of what the builtin's run is known to be. -/
import Derived.Deep.QuietTactic
import Derived.BigQuiet
import Derived.Deep.AppendLies
import Derived.Deep.RegionLaw
import Derived.Test.YtemilbemdlpkaaaGreatDoorPaa
import Derived.Deep.RegionHeld3
namespace Go.Proofs.YtemilbemdlpkaaaGreatDoor
open Go.RowKit Go.ChangeMaps Go.MapKept

theorem Tryz.info5 : (Tryz.prog.info? 5).map (fun i => (i.zero, i.size, i.bytes)) = some (some (.int .u8 0), 1, 1) := by kernel_rfl
theorem zero_bytes (w : World) : (zeroValue 25).run Tryz.prog w = .ok (.slice none 0 0) w := by kernel_rfl

section
variable {P : Program} {ops : Array Oper} {o : Oper} {a : Act} {w : World} {K : Act → World → Prop} {Q : Exit → Act → World → Prop} {E : Prop}

theorem wp_append_run (s x : Operand) (ts : Array TypeId) (hop : o.op = Op.call { callee := Callee.builtin Builtin.append, args := #[s, x], argTypes := ts })
    (v u v' : Value) (w' : World) (hs : a.eval s = v) (hx : a.eval x = u) (hrun : (Builtin.append_ ts o.type #[v, u]).run P w = .ok v' w') (hK : K (a.put o.dst v') w') : Oper.wp P o a w K Q := by
  unfold Oper.wp execOp
  simp only [hop, resolve, invoke, builtin, Sem.run_bind, Sem.run_pure, Result.andThen_ok, List.map_toArray, List.map_cons, List.map_nil, hs, hx, hrun]
  exact hK

theorem step_append_run (hg : o.guard = none) (s x : Operand) (ts : Array TypeId) (hop : o.op = Op.call { callee := Callee.builtin Builtin.append, args := #[s, x], argTypes := ts })
    (v u v' : Value) (w' : World) (hs : a.eval s = v) (hx : a.eval x = u) (hrun : (Builtin.append_ ts o.type #[v, u]).run P w = .ok v' w') (hK : K (a.put o.dst v') w') :
    if Region.wanted o (yielded ops a.tmps) = true then Oper.wp P o a w K Q else E := by
  have hw : Region.wanted o (yielded ops a.tmps) = true := by simp [Region.wanted, hg]
  rw [if_pos hw]
  exact wp_append_run s x ts hop v u v' w' hs hx hrun hK

theorem wpList_append_run {rest : List Oper} (hg : o.guard = none) (s x : Operand) (ts : Array TypeId) (hop : o.op = Op.call { callee := Callee.builtin Builtin.append, args := #[s, x], argTypes := ts })
    (v u v' : Value) (w' : World) (hs : a.eval s = v) (hx : a.eval x = u) (hrun : (Builtin.append_ ts o.type #[v, u]).run P w = .ok v' w')
    (h : wpList P ops Q rest (a.put o.dst v') w') : wpList P ops Q (o :: rest) a w :=
  wpList_plain hg fun _ hK => wp_append_run s x ts hop v u v' w' hs hx hrun (hK _ _ h)

/-- .. where the operation is guarded, and its guard says yes. -/
theorem wpList_append_run_g {rest : List Oper} (hw : Region.wanted o (yielded ops a.tmps) = true) (s x : Operand) (ts : Array TypeId) (hop : o.op = Op.call { callee := Callee.builtin Builtin.append, args := #[s, x], argTypes := ts })
    (v u v' : Value) (w' : World) (hs : a.eval s = v) (hx : a.eval x = u) (hrun : (Builtin.append_ ts o.type #[v, u]).run P w = .ok v' w')
    (h : wpList P ops Q rest (a.put o.dst v') w') : wpList P ops Q (o :: rest) a w :=
  wpList_step fun _ hK => by rw [if_pos hw]; exact wp_append_run s x ts hop v u v' w' hs hx hrun (hK _ _ h)
end

theorem run_append_none {P : Program} (t ty e : TypeId) (i : TypeInfo) (ht : P.underlying t = some (.slice e)) (hi : P.info? e = some i) (b : Option Addr) (n cap : Nat) (hn : n ≤ cap) (a2 : Option Addr) (c2 : Nat) (w : World) :
    (Builtin.append_ #[t, t] ty #[.slice b n cap, .slice a2 0 c2]).run P w = .ok (.slice b n cap) w := by
  cases a2 <;> cases b <;> simp [Builtin.append_, run_underlying ht, sizeOf, typeInfo, hi, Builtin.lenOf, Builtin.firstCells, hn, loadCells, loadCellsFrom, storeCells, Result.andThen]

theorem addr_add (g o i : Nat) : (⟨g, o, none⟩ : Addr).add i = ⟨g, o + i, none⟩ := by
  unfold Addr.add; split
  · rename_i h; subst h; rfl
  · rfl

/-- append of bytes that lie anywhere onto bytes that are owned. -/
theorem run_append_bytes (w : World) (v v2 : Value) (xs ys : List UInt8) (hv : OwnB w v xs) (hp : IsB w v2 ys) (hlen : xs.length + ys.length ≤ 140737488355328) :
    ∃ v' w', (Builtin.append_ #[25, 25] 25 #[v, v2]).run Tryz.prog w = .ok v' w' ∧ OwnB w' v' (xs ++ ys) ∧ w.grownBy w' v.ownBlock ∧ (∀ g, v'.ownBlock = some g → v.ownBlock = some g ∨ (g = w.heap.size ∧ g < w'.heap.size)) ∧
      (v' = .slice none 0 0 ↔ v = .slice none 0 0 ∧ ys = []) := by
  obtain ⟨i0, hi, hz0, hz1, hz2⟩ := info_parts Tryz.info5
  obtain ⟨a, c, rfl, hc, hcm, hsrc⟩ := hp
  rcases hsrc with rfl | ⟨g, o, rfl, hgl, hcells⟩
  · obtain ⟨b, n, cap, rfl, hn⟩ : ∃ b n cap, v = .slice b n cap ∧ n ≤ cap := by
      rcases hv.2 with ⟨rfl, h0⟩ | ⟨g, cap, cur, rfl, _, _, hn, _⟩
      · exact ⟨none, 0, 0, rfl, Nat.le_refl _⟩
      · exact ⟨_, _, _, rfl, hn⟩
    refine ⟨_, w, run_append_none _ _ _ i0 Tryz.underlying25 hi b n cap hn a c w, by simpa using hv, ⟨rfl, rfl, rfl, Nat.le_refl _, fun _ _ _ => rfl⟩, fun g hg => .inl hg, by simp⟩
  · obtain ⟨v', w', hr, h2, h3, h4, h5⟩ := run_append_own_at (P := Tryz.prog) w 0 25 25 5 i0 (.int .u8 0) 1 1 Tryz.underlying25 hi hz0 hz1 hz2 rfl (by decide) v xs.length (bytesV xs) hv ⟨g, o, none⟩ ys.length c (bytesV ys) (by simp) (fun j u hu => by rw [addr_add]; exact hcells j u hu) (bytesV_one _) (by unfold maxLen; omega) (by omega) (Nat.zero_le _)
    refine ⟨v', w', hr, by unfold OwnB; rw [List.length_append, bytesV_append]; exact h2, h3, fun g' hg' => ?_, ?_⟩
    · rcases h5 with h5 | h5
      · exact .inl (by rw [← h5]; exact hg')
      · right
        have : g' = w.heap.size := by rw [hg'] at h5; simpa using h5
        exact ⟨this, (World.ownsRow.lt h2 g' hg').2⟩
    · rw [h4]
      simp

theorem run_slice_high {P : Program} {T E : TypeId} (hT : P.underlying T = some (.slice E)) {i : TypeInfo} (hi : P.info? E = some i) (a : Option Addr) (n c k : Nat) (hk : k ≤ c) (w : World) :
    (Instr.slice T (.slice a n c) none (some (.int .i64 k)) none).run P w = .ok (.slice a k c) w := by
  have ha : (if c = 0 then a else a.map (·.add 0)) = a := by
    split
    · rfl
    · cases a <;> simp [Addr.add]
  simp [Instr.slice, run_underlying hT, Instr.sliceBounds, Instr.sliceBound, asIntOf, sizeOf, typeInfo, hi, Result.andThen, hk, ha]

theorem run_slice_low {P : Program} {T E : TypeId} (hT : P.underlying T = some (.slice E)) {i : TypeInfo} (hi : P.info? E = some i) (a : Option Addr) (n c k : Nat) (hk : k ≤ n) (w : World) :
    (Instr.slice T (.slice a n c) (some (.int .i64 k)) none none).run P w = .ok (.slice (if c = k then a else a.map (·.add (k * i.size))) (n - k) (c - k)) w := by
  simp [Instr.slice, run_underlying hT, Instr.sliceBounds, Instr.sliceBound, asIntOf, sizeOf, typeInfo, hi, Result.andThen, hk]

theorem IsB.take {w : World} {a : Option Addr} {n c : Nat} {bs : List UInt8} (h : IsB w (.slice a n c) bs) {k : Nat} (hk : k ≤ bs.length) : IsB w (.slice a k c) (bs.take k) := by
  obtain ⟨a', c', hv, h1, h2, h3⟩ := h
  cases hv
  have hl : (bs.take k).length = k := by simp [Nat.min_eq_left hk]
  refine ⟨_, _, by rw [hl], by omega, h2, ?_⟩
  rcases h3 with h3 | ⟨g, o, rfl, hg, h4⟩
  · left; simp [h3]
  · refine .inr ⟨g, o, rfl, hg, fun i x hx => h4 i x ?_⟩
    simp only [bytesV, List.map_take, List.getElem?_take] at hx ⊢
    split at hx
    · exact hx
    · cases hx

theorem IsB.drop {w : World} {a : Option Addr} {n c : Nat} {bs : List UInt8} (h : IsB w (.slice a n c) bs) {k : Nat} (hk : k ≤ bs.length) : IsB w (.slice (if c = k then a else a.map (·.add (k * 1))) (n - k) (c - k)) (bs.drop k) := by
  obtain ⟨a', c', hv, h1, h2, h3⟩ := h
  cases hv
  refine ⟨if c = k then a else a.map (·.add (k * 1)), c - k, by rw [List.length_drop], by simp only [List.length_drop]; omega, by omega, ?_⟩
  rcases h3 with h3 | ⟨g, o, rfl, hg, h4⟩
  · left; simp [h3]
  · by_cases hc : c = k
    · left
      exact List.drop_eq_nil_of_le (by omega)
    · rw [if_neg hc]
      refine .inr ⟨g, o + k, by simp [addr_add], hg, fun i x hx => ?_⟩
      rw [Nat.add_assoc]
      refine h4 (k + i) x ?_
      simpa [bytesV, List.map_drop, List.getElem?_drop] using hx

/-- An empty slice of the call's own. -/
theorem empty_new (w : World) : OwnB (w.alloc (.cells #[] 5)) (.slice (some ⟨w.heap.size, 0, none⟩) 0 0) [] :=
  ⟨rfl, .inr ⟨w.heap.size, 0, #[], rfl, Nat.zero_le _, heap_alloc_new w _, Nat.le_refl _, by simp [maxLen], rfl, rfl⟩⟩

/-- 'b[k:]' of bytes. -/
theorem bytes_low {w : World} {a : Option Addr} {n c : Nat} {bs : List UInt8} (h : IsB w (.slice a n c) bs) {k : Nat} (hk : k ≤ bs.length) :
    ∃ a2, (∀ w', (Instr.slice 25 (.slice a n c) (some (.int .i64 k)) none none).run Tryz.prog w' = .ok (.slice a2 (n - k) (c - k)) w') ∧ IsB w (.slice a2 (n - k) (c - k)) (bs.drop k) ∧ (∀ g, (Value.slice a2 (n - k) (c - k)).ownBlock = some g → (Value.slice a n c).ownBlock = some g) ∧ a2 = (if c = k then a else a.map (·.add (k * 1))) := by
  obtain ⟨i0, hi, hz0, hz1, hz2⟩ := info_parts Tryz.info5
  have hn : n = bs.length := by obtain ⟨_, _, hv, _⟩ := h; cases hv; rfl
  have hd := h.drop hk
  refine ⟨_, fun w' => by rw [run_slice_low Tryz.underlying25 hi a n c k (by omega) w', hz1], hd, fun g hg => ?_, rfl⟩
  cases a with
  | none => simp [Value.ownBlock] at hg
  | some ad =>
    split at hg
    · exact hg
    · simp only [Option.map_some, Value.ownBlock] at hg ⊢
      rw [← hg]
      simp [Addr.add]
      split <;> rfl

/-- 'b[:k]' of bytes. -/
theorem bytes_high {w : World} {a : Option Addr} {n c : Nat} {bs : List UInt8} (h : IsB w (.slice a n c) bs) {k : Nat} (hk : k ≤ bs.length) :
    (∀ w', (Instr.slice 25 (.slice a n c) none (some (.int .i64 k)) none).run Tryz.prog w' = .ok (.slice a k c) w') ∧ IsB w (.slice a k c) (bs.take k) := by
  obtain ⟨i0, hi, hz0, hz1, hz2⟩ := info_parts Tryz.info5
  obtain ⟨_, _, hv, h1, _⟩ := id h
  cases hv
  exact ⟨fun w' => run_slice_high Tryz.underlying25 hi a _ c k (by omega) w', h.take hk⟩

theorem IsB.block_lt {w : World} {v : Value} {bs : List UInt8} (h : IsB w v bs) (hne : bs ≠ []) : ∀ g, v.ownBlock = some g → g < w.heap.size := by
  obtain ⟨a, c, rfl, _, _, h3⟩ := h
  rcases h3 with h3 | ⟨g, o, rfl, hg, _⟩
  · exact absurd h3 hne
  · intro g' e; cases e; exact hg

theorem one_new (w : World) (x : Value) (t : TypeId) : ∃ w2, w.alloc (.cells #[x] t) = w2 ∧ Kept (fun _ => False) w w2 ∧ w2.heap.size = w.heap.size + 1 ∧ w2.cell? ⟨w.heap.size, 0, none⟩ = some x :=
  ⟨_, rfl, (Kept.refl _ w).alloc _, by simp, by simp⟩

theorem Kept.cell {F : Nat → Prop} {w w' : World} (h : Kept F w w') {p : Addr} {v : Value} (hc : w.cell? p = some v) (hF : ¬ F p.block) : w'.cell? p = some v :=
  (World.cell?_of_block (w := w) (h.block p.block (World.block_lt_of_cell? w _ hc) hF)).trans hc

theorem IsB.keptS {F : Nat → Prop} {w w' : World} {v : Value} {bs : List UInt8} (h : IsB w v bs) (hk : Kept F w w') (hF : bs ≠ [] → ∀ g, v.ownBlock = some g → ¬ F g) : IsB w' v bs := by
  obtain ⟨a, c, rfl, h1, h2, h3⟩ := h
  refine ⟨a, c, rfl, h1, h2, ?_⟩
  rcases h3 with h3 | ⟨g, o, rfl, hg, h4⟩
  · exact .inl h3
  · refine .inr ⟨g, o, rfl, Nat.lt_of_lt_of_le hg hk.size, fun i x hx => (World.cell?_of_block (w := w) (hk.block g hg (hF (fun e => ?_) g rfl))).trans (h4 i x hx)⟩
    subst e; simp [bytesV] at hx

theorem IsB.keptF {F : Nat → Prop} {w w' : World} {v : Value} {bs : List UInt8} (h : IsB w v bs) (hk : Kept F w w') (hF : ∀ g, v.ownBlock = some g → ¬ F g) : IsB w' v bs := by
  obtain ⟨a, c, rfl, h1, h2, h3⟩ := h
  refine ⟨a, c, rfl, h1, h2, ?_⟩
  rcases h3 with h3 | ⟨g, o, rfl, hg, h4⟩
  · exact .inl h3
  · exact .inr ⟨g, o, rfl, Nat.lt_of_lt_of_le hg hk.size, fun i x hx => (World.cell?_of_block (w := w) (hk.block g hg (hF g rfl))).trans (h4 i x hx)⟩
end Go.Proofs.YtemilbemdlpkaaaGreatDoor

/- disk: what is done inside a raw write; may; raw. -/
namespace Go.Proofs.YtemilbemdlpkaaaGreatDoor
open Go.RowKit Go.ChangeMaps Go.MapKept

def okc (c : UInt8) : Bool := (decide (97 ≤ c.toNat) && decide (c.toNat ≤ 122)) || (decide (48 ≤ c.toNat) && decide (c.toNat ≤ 57)) || decide (c.toNat = 45) || decide (c.toNat = 46)
/-- a file's name -/
def mayB (s : ByteArray) : Bool := decide (1 ≤ s.size) && decide (s.size ≤ 32) && s.data.toList.all okc

theorem take_snoc (s : ByteArray) (k : Nat) (h : k < s.size) : s.data.toList.take (k + 1) = s.data.toList.take k ++ [s[k]] := by
  rw [List.take_succ_eq_append_getElem (by simpa using h)]; rfl

theorem all_snoc (s : ByteArray) (k : Nat) (h : k < s.size) (ha : (s.data.toList.take k).all okc = true) (hc : okc s[k] = true) : (s.data.toList.take (k + 1)).all okc = true := by
  rw [take_snoc s k h, List.all_append, ha]; simp [hc]

theorem not_all (s : ByteArray) (k : Nat) (h : k < s.size) (hc : okc s[k] = false) : mayB s = false := by
  have : s.data.toList.all okc = false := by
    rw [List.all_eq_false]
    exact ⟨s.data.toList[k]'(by simpa using h), List.getElem_mem _, by rw [show s.data.toList[k]'(by simpa using h) = s[k] from rfl, hc]; simp⟩
  simp [mayB, this]

theorem all_all (s : ByteArray) (n : Nat) (h : s.size ≤ n) (h2 : 1 ≤ s.size ∧ s.size ≤ 32) (ha : (s.data.toList.take n).all okc = true) : mayB s = true := by
  rw [List.take_of_length_le (by simpa using h)] at ha
  simp [mayB, h2] at ha ⊢
  exact ha

set_option maxHeartbeats 1000000 in
theorem may_any (s : ByteArray) (w : World) (hs : s.size ≤ maxLen) :
    Calls Tryz.prog 50 #[.string s] w fun e w' => e = .returned (.bool (mayB s)) ∧ w = w' := by
  unfold maxLen at hs
  by_cases h1 : s.size < 1
  · have H : Hid (mayB s = false) := by simp [mayB]; intro h; omega
    go_enter Tryz.func50, Tryz.ntmps50
    go_wp2
    go_ret
    exact ⟨by rw [H.out]; simp, rfl⟩
  · by_cases h2 : 32 < s.size
    · have H : Hid (mayB s = false) := by simp [mayB]; intro _ h; omega
      go_enter Tryz.func50, Tryz.ntmps50
      go_wp2
      go_ret
      exact ⟨by rw [H.out]; simp, rfl⟩
    · go_enter Tryz.func50, Tryz.ntmps50
      go_wp2
      go_loop [2, 3, 4, 21, 15, 16, 17, 18,19,20, 22,23,24,25,26,27,28,29,30,31,32,33,34,35,36,37,38] (fun r i c t21 k t16 t17 t18 t19 t20 t22 t23 t24 t25 t26 t27 t28 t29 t30 t31 t32 t33 t34 t35 t36 t37 t38 => ∃ n : Nat, n ≤ s.size ∧ k = .int .i64 n ∧ Hid ((s.data.toList.take n).all okc = true)) (fun r i c t21 k t16 t17 t18 t19 t20 t22 t23 t24 t25 t26 t27 t28 t29 t30 t31 t32 t33 t34 t35 t36 t37 t38 => s.size - (intOf k).toNat)
      case atStart => exact ⟨0, Nat.zero_le _, rfl, rfl⟩
      case round =>
        obtain ⟨n, hn, rfl, hall⟩ := hrel
        go_wp2
        all_goals first
          | (go_round
             case rel => exact ⟨n + 1, by omega, by go_num, all_snoc s n (by omega) hall (by simp only [okc, Bool.or_eq_true, Bool.and_eq_true, decide_eq_true_eq]; simp only [beq_iff_eq] at *; omega)⟩
             case measure => simp [intOf]; omega)
          | (go_ret
             have hlt : n < s.size := by assumption
             have H : Hid (mayB s = false) := not_all s n hlt (by simp only [okc, Bool.or_eq_false_iff, Bool.and_eq_false_iff, decide_eq_false_iff_not]; simp only [beq_eq_false_iff_ne] at *; omega)
             exact ⟨by rw [H.out]; rfl, rfl⟩)
          | (go_ret
             have hge : ¬ n < s.size := by assumption
             have H : Hid (mayB s = true) := all_all s n (by omega) (by omega) hall
             exact ⟨by rw [H.out]; rfl, rfl⟩)

theorem app1 (Bd Bn b m : Nat) (s : ByteArray) (w w2 : World)
    (hd : w.cell? ⟨Bd, 0, none⟩ = some (.pointer (some ⟨b, 0, none⟩))) (hn : w.cell? ⟨Bn, 0, none⟩ = some (.string s))
    (hb : w.cell? ⟨b, 0, none⟩ = some (.map (some m)))
    (hrun : (Instr.mapUpdate 104 (.map (some m)) (.string s) (.slice none 0 0)).run Tryz.prog (w.drew) = .ok () w2) :
    Calls Tryz.prog 52 #[.pointer (some ⟨Bd, 0, none⟩), .pointer (some ⟨Bn, 0, none⟩)] w fun e w' => e = .returned (.tuple #[]) ∧ w' = w2 := by
  go_enter Tryz.func52, Tryz.ntmps52
  go_wp2
  go_region
  go_end0
  exact ⟨rfl, rfl⟩

set_option maxHeartbeats 400000 in
theorem app2 (Bd Bn Bp b m : Nat) (s : ByteArray) (p v v' : Value) (w w1 w2 : World)
    (hd : w.cell? ⟨Bd, 0, none⟩ = some (.pointer (some ⟨b, 0, none⟩))) (hn : w.cell? ⟨Bn, 0, none⟩ = some (.string s)) (hp : w.cell? ⟨Bp, 0, none⟩ = some p)
    (hb : w.cell? ⟨b, 0, none⟩ = some (.map (some m)))
    (hd1 : w1.cell? ⟨Bd, 0, none⟩ = some (.pointer (some ⟨b, 0, none⟩))) (hn1 : w1.cell? ⟨Bn, 0, none⟩ = some (.string s)) (hb1 : w1.cell? ⟨b, 0, none⟩ = some (.map (some m))) (hp1 : w1.cell? ⟨Bp, 0, none⟩ = some p)
    (hd2 : w2.cell? ⟨Bd, 0, none⟩ = some (.pointer (some ⟨b, 0, none⟩))) (hn2 : w2.cell? ⟨Bn, 0, none⟩ = some (.string s)) (hb2 : w2.cell? ⟨b, 0, none⟩ = some (.map (some m))) (hp2 : w2.cell? ⟨Bp, 0, none⟩ = some p)
    (hl : (Instr.lookup 104 (.map (some m)) (.string s) false).run Tryz.prog w.drew = .ok v w.drew)
    (ha : (Builtin.append_ #[25, 25] 25 #[v, p]).run Tryz.prog w.drew = .ok v' w1)
    (hrun : (Instr.mapUpdate 104 (.map (some m)) (.string s) v').run Tryz.prog w1 = .ok () w2) :
    Calls Tryz.prog 53 #[.pointer (some ⟨Bd, 0, none⟩), .pointer (some ⟨Bn, 0, none⟩), .pointer (some ⟨Bp, 0, none⟩)] w fun e w' => e = .returned (.tuple #[]) ∧ w' = w2 := by
  go_enter Tryz.func53, Tryz.ntmps53
  go_wp2
  go_region_held3 (fun w' => w'.cell? ⟨Bd, 0, none⟩ = some (.pointer (some ⟨b, 0, none⟩)) ∧ w'.cell? ⟨Bn, 0, none⟩ = some (.string s) ∧ w'.cell? ⟨b, 0, none⟩ = some (.map (some m)) ∧ w'.cell? ⟨Bp, 0, none⟩ = some p)
    (first | exact ⟨hd1, hn1, hb1, hp1⟩ | exact ⟨hd2, hn2, hb2, hp2⟩ | exact ⟨hd, hn, hb, hp⟩)
    ((refine step_append_run rfl (.tmp 13) (.tmp 14) #[25, 25] rfl _ _ _ _ rfl rfl ha ?_))
  go_end0
  exact ⟨rfl, rfl⟩

theorem raw_cut (b : Nat) (w : World) (f : Value)
    (c3 : w.cell? ⟨b, 3, none⟩ = some (.bool true)) (c2 : w.cell? ⟨b, 2, none⟩ = some (.int .i64 0)) :
    Calls Tryz.prog 51 #[.pointer (some ⟨b, 0, none⟩), f] w fun e w' => e = .returned (.int .i64 6) ∧ w = w' := by
  go_enter Tryz.func51, Tryz.ntmps51
  go_wp2
  go_ret
  exact ⟨rfl, rfl⟩

theorem raw_free (b : Nat) (wr : Int) (w : World) (f : Nat) (caps : Array Value) (R : World → Prop) (h0 : 0 ≤ wr) (h1 : wr < 4611686018427387904)
    (c3 : w.cell? ⟨b, 3, none⟩ = some (.bool false)) (c1 : w.cell? ⟨b, 1, none⟩ = some (.int .i64 wr)) (f1 : w.frozen? ⟨b, 1, none⟩ = false)
    (hcall : ∀ w, (callFunc f caps).run Tryz.prog w = .ok (.enter f caps) w)
    (hf : Calls Tryz.prog f caps (w.setCell ⟨b, 1, none⟩ (.int .i64 (wr + 1))) fun e w' => e = .returned (.tuple #[]) ∧ R w') :
    Calls Tryz.prog 51 #[.pointer (some ⟨b, 0, none⟩), .func (.func f) #[] caps] w fun e w' => e = .returned (.int .i64 0) ∧ R w' := by
  go_enter Tryz.func51, Tryz.ntmps51
  go_wp2_with fail
  refine hf.mono ?_
  rintro e w' ⟨rfl, hr⟩
  go_wp2
  go_ret
  exact ⟨rfl, hr⟩

theorem raw_left (b : Nat) (wr lf : Int) (w : World) (f : Nat) (caps : Array Value) (R : World → Prop) (h0 : 0 ≤ wr) (h1 : wr < 4611686018427387904) (h2 : 0 < lf) (h3 : lf ≤ 9223372036854775807)
    (c3 : w.cell? ⟨b, 3, none⟩ = some (.bool true)) (c1 : w.cell? ⟨b, 1, none⟩ = some (.int .i64 wr)) (f1 : w.frozen? ⟨b, 1, none⟩ = false)
    (c2 : w.cell? ⟨b, 2, none⟩ = some (.int .i64 lf)) (f2 : w.frozen? ⟨b, 2, none⟩ = false)
    (hcall : ∀ w, (callFunc f caps).run Tryz.prog w = .ok (.enter f caps) w)
    (hf : Calls Tryz.prog f caps ((w.setCell ⟨b, 2, none⟩ (.int .i64 (lf - 1))).setCell ⟨b, 1, none⟩ (.int .i64 (wr + 1))) fun e w' => e = .returned (.tuple #[]) ∧ R w') :
    Calls Tryz.prog 51 #[.pointer (some ⟨b, 0, none⟩), .func (.func f) #[] caps] w fun e w' => e = .returned (.int .i64 0) ∧ R w' := by
  have hne : (lf == 0) = false := by simp; omega
  go_enter Tryz.func51, Tryz.ntmps51
  go_wp2_with fail
  refine hf.mono ?_
  rintro e w' ⟨rfl, hr⟩
  go_wp2
  go_ret
  exact ⟨rfl, hr⟩

theorem call_app1 (caps : Array Value) (w : World) : (callFunc 52 caps).run Tryz.prog w = .ok (.enter 52 caps) w := by kernel_rfl
end Go.Proofs.YtemilbemdlpkaaaGreatDoor
