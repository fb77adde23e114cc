/- object: Encode of a commit without author and text, of a blob, of the empty tree. -/
import Derived.Test.YtikacgiccllolaaGreatObjA
namespace Go.Proofs.YtikacgiccllolaaGreat
open Go.RowKit Go.ChangeMaps Go.MapKept

def allocs (w : World) : List Obj → World
  | [] => w
  | o :: l => allocs (w.alloc o) l
theorem allocs_old (os : List Obj) : ∀ (w : World) (k : Nat), k < w.heap.size → (allocs w os).heap[k]? = w.heap[k]? := by
  induction os with
  | nil => intro w k _; rfl
  | cons o os ih =>
    intro w k hk
    show (allocs (w.alloc o) os).heap[k]? = _
    rw [ih (w.alloc o) k (by simp; omega)]
    exact Below.heap_alloc _ _ _ (by omega)
theorem allocs_heap (os : List Obj) : ∀ (w : World) (i : Nat) (o : Obj), os[i]? = some o → (allocs w os).heap[w.heap.size + i]? = some o := by
  induction os with
  | nil => intro w i o h; simp at h
  | cons x os ih =>
    intro w i o h
    cases i with
    | zero =>
      simp at h
      subst h
      show (allocs (w.alloc x) os).heap[w.heap.size + 0]? = _
      rw [allocs_old os _ _ (by simp)]
      exact heap_alloc_new _ _
    | succ i =>
      have := ih (w.alloc x) i o (by simpa using h)
      rw [World.size_alloc] at this
      show (allocs (w.alloc x) os).heap[w.heap.size + (i + 1)]? = _
      rw [← this]
      congr 1
      omega
theorem allocs_kept (os : List Obj) : ∀ (w : World), Kept (fun _ => False) w (allocs w os) := by
  induction os with
  | nil => intro w; exact Kept.refl _ _
  | cons o os ih => intro w; exact ((Kept.refl (fun _ => False) w).alloc o).more (ih _) (fun _ f => f.elim)
theorem callsAt {P : Program} {f : Nat} {args : Array Value} {R : Ending → World → Prop} {W : World} (h : ∀ W', W' = W → Calls P f args W' R) : Calls P f args W R := h W rfl
def date64 (d : Int) : Nat := (d % 18446744073709551616).toNat
theorem date64_eq (d : Int) : IntKind.u64.wrap d = (date64 d : Int) := by rw [IntKind.wrap_u64]; unfold date64; omega
theorem date64_lt (d : Int) : date64 d < 18446744073709551616 := by unfold date64; omega
def encC (tree : Nat) (ps : List Nat) (date : Int) : List UInt8 := [99] ++ wordB tree ++ uintB ps.length ++ wordsB ps ++ [0] ++ wordB (date64 date) ++ [0]
theorem FreshB.boxed {w W w2 : World} {v : Value} {bs : List UInt8} (hf : FreshB W v bs w2) (hk : Kept (fun _ => False) w W) {B : Nat} (h1 : w.heap.size ≤ B) (h2 : B < W.heap.size) (x : Value) : FreshB w v bs (w2.setCell ⟨B, 0, none⟩ x) := by
  have hk2 := (Kept.refl (· = B) w2).setCell (p := ⟨B, 0, none⟩) (fun _ => rfl) x
  refine ⟨OwnB.kept hf.own fun g hg => hk2.block g (hf.own.lt g hg) (fun e => by have := hf.new g hg; omega), (hk.more hf.kept (fun _ f => f.elim)).more hk2 (fun i e => by omega), fun g hg => Nat.le_trans hk.size (hf.new g hg)⟩
theorem textB_empty : textB { data := #[] } = [0] := by decide +kernel

set_option maxRecDepth 100000 in
set_option maxHeartbeats 1000000 in
theorem encode_commit (w : World) (tree : Nat) (pa : Option Addr) (pc : Nat) (ps : List Nat) (date : Int) (h : IsI w (.slice pa ps.length pc) ps) (ht : tree ≠ 0) (ht64 : tree < 18446744073709551616) (hl : ps.length ≤ 8) (h0 : 0 ∉ ps) :
    Calls Tryz.prog 42 #[.iface 61 (comV tree (.slice pa ps.length pc) date)] w fun e w' => ∃ v, e = .returned (.tuple #[v, .int .i64 0]) ∧ FreshB w v (encC tree ps date) w' := by
  have hCK := Lib.hid (check_commit w tree pa pc ps date h ht hl h0)
  unfold comV at *
  have tb : ∀ w, (Instr.typeAssert (.iface 61 (.agg #[.int .u64 tree, .slice pa ps.length pc, .string { data := #[] }, .int .i64 date, .string { data := #[] }])) 63 66 true).run Tryz.prog w = .ok (.tuple #[.agg #[.slice none 0 0], .bool false]) w := fun w => ta_no Tryz.underlying66 (by decide) zero_blob _ w
  have tt : ∀ w, (Instr.typeAssert (.iface 61 (.agg #[.int .u64 tree, .slice pa ps.length pc, .string { data := #[] }, .int .i64 date, .string { data := #[] }])) 63 106 true).run Tryz.prog w = .ok (.tuple #[.agg #[.slice none 0 0], .bool false]) w := fun w => ta_no Tryz.underlying106 (by decide) zero_tree _ w
  have tc : ∀ w, (Instr.typeAssert (.iface 61 (.agg #[.int .u64 tree, .slice pa ps.length pc, .string { data := #[] }, .int .i64 date, .string { data := #[] }])) 63 61 true).run Tryz.prog w = .ok (.tuple #[(.agg #[.int .u64 tree, .slice pa ps.length pc, .string { data := #[] }, .int .i64 date, .string { data := #[] }]), .bool true]) w := fun w => ta_yes Tryz.underlying61 _ w
  have tq : ∀ w, (Instr.typeAssert (.iface 61 (.agg #[.int .u64 tree, .slice pa ps.length pc, .string { data := #[] }, .int .i64 date, .string { data := #[] }])) 63 61 false).run Tryz.prog w = .ok (.agg #[.int .u64 tree, .slice pa ps.length pc, .string { data := #[] }, .int .i64 date, .string { data := #[] }]) w := fun w => ta_one Tryz.underlying61 _ w
  clear tc
  go_enter Tryz.func42, Tryz.ntmps42
  go_wp2_with fail
  refine hCK.out.mono ?_
  rintro e w1 ⟨rfl, hk1⟩
  go_wp2_with fail
  refine callsAt ?_
  intro W hW
  obtain ⟨C, hC⟩ : ∃ C, (Question.appendCap 1 0 5).cut (w1.tape w1.drawn (Question.appendCap 1 0 5)) = C := ⟨_, rfl⟩
  have hC1 : 1 ≤ C := by rw [← hC]; exact grownCap_ge w1 1 0 5
  have hC2 : C ≤ maxLen := by rw [← hC]; exact grownCap_le_maxLen w1 1 0 5 (by simp [maxLen])
  rw [hC] at hW
  have hW2 : W = (allocs w1 [.cells #[.slice (some ⟨w1.heap.size + 5, 0, none⟩) 1 C] 64, .cells #[.slice none 0 0] 66, .cells #[.slice none 0 0] 106, .cells #[.int .u64 tree, .slice pa ps.length pc, .string { data := #[] }, .int .i64 date, .string { data := #[] }] 61, .cells #[.int .u8 99] 5, .cells (#[.int .u8 99] ++ Builtin.zeroCells #[.int .u8 0] (C - 1)) 5, .cells #[.int .u64 tree] 37]).drew := hW
  clear hW
  generalize hos : [Obj.cells #[.slice (some ⟨w1.heap.size + 5, 0, none⟩) 1 C] 64, .cells #[.slice none 0 0] 66, .cells #[.slice none 0 0] 106, .cells #[.int .u64 tree, .slice pa ps.length pc, .string { data := #[] }, .int .i64 date, .string { data := #[] }] 61, .cells #[.int .u8 99] 5, .cells (#[.int .u8 99] ++ Builtin.zeroCells #[.int .u8 0] (C - 1)) 5, .cells #[.int .u64 tree] 37] = os at hW2
  have hkW : Kept (fun _ => False) w1 W := by rw [hW2]; exact (allocs_kept _ _).drew
  have hob : ∀ i o, os[i]? = some o → W.heap[w1.heap.size + i]? = some o := fun i o h => by rw [hW2]; exact allocs_heap _ _ _ _ h
  have b0 := hob 0 _ (by rw [← hos]; rfl)
  have b3 := hob 3 _ (by rw [← hos]; rfl)
  have b5 := hob 5 _ (by rw [← hos]; rfl)
  have b6 := hob 6 _ (by rw [← hos]; rfl)
  have hsW : w1.heap.size + 6 < W.heap.size := (Array.getElem?_eq_some_iff.1 b6).1
  clear hob hos hW2
  have c0 : W.cell? ⟨w1.heap.size + 3, 0, none⟩ = some (.int .u64 tree) := by simp [World.cell?, b3]
  have c1 : W.cell? ⟨w1.heap.size + 3, 1, none⟩ = some (.slice pa ps.length pc) := by simp [World.cell?, b3]
  have c2 : W.cell? ⟨w1.heap.size + 3, 2, none⟩ = some (.string { data := #[] }) := by simp [World.cell?, b3]
  have c3 : W.cell? ⟨w1.heap.size + 3, 3, none⟩ = some (.int .i64 date) := by simp [World.cell?, b3]
  have c4 : W.cell? ⟨w1.heap.size + 3, 4, none⟩ = some (.string { data := #[] }) := by simp [World.cell?, b3]
  have hbox : BoxB W w1.heap.size [99] := ⟨_, b0, ⟨_, _, rfl, hC1, hC2, .inr ⟨_, _, rfl, by omega, fun i x hx => by
    match i, hx with
    | 0, hx => cases hx; simp [World.cell?, b5, Array.getElem?_append]
    | i + 1, hx => simp [bytesV] at hx⟩⟩, fun g e => (by have h9 : w1.heap.size + 5 = g := (by simpa [Value.ownBlock] using e); omega)⟩
  have hids : IsI W (.slice (some ⟨w1.heap.size + 6, 0, none⟩) 1 1) [tree] := ⟨_, _, rfl, Nat.le_refl _, by simp [maxLen], (fun n hn => by rw [List.mem_singleton.1 hn]; exact ht64), .inr ⟨_, _, rfl, by omega, fun i x hx => by
    match i, hx with
    | 0, hx => cases hx; simp [World.cell?, b6]
    | i + 1, hx => simp [idsV] at hx⟩⟩
  have hps := (h.keptN hk1).keptN hkW
  have hsp : ∀ g, (Value.slice pa ps.length pc).ownBlock = some g → g ≠ w1.heap.size ∨ ps = [] := fun g e => by
    obtain ⟨_, _, e2, -, -, -, h4⟩ := h.keptN hk1
    cases e2
    rcases h4 with h4 | ⟨g', o, rfl, hg, -⟩
    · exact .inr h4
    · have : g' = g := by simpa [Value.ownBlock] using e
      exact .inl (by omega)
  clear b0 b3 b5 b6
  refine (word1_any W w1.heap.size [99] hbox (some ⟨w1.heap.size + 6, 0, none⟩) 1 [tree] hids (fun g e => .inl (by have h9 : w1.heap.size + 6 = g := (by simpa [Value.ownBlock] using e); omega)) (by simp)).mono ?_
  rintro e w2 ⟨rfl, hb2, hk2⟩
  have HB2 := Lib.hid hb2
  clear hb2 hbox hids
  have hcv : IntKind.u64.wrap (ps.length : Int) = (ps.length : Int) := by rw [IntKind.wrap_u64]; omega
  have hcu : IntKind.u64.wrap date = (date64 date : Int) := date64_eq date
  have hTE := textB_empty
  have HH := Lib.hid (And.intro hps (And.intro hsp hsW))
  have HKW := Lib.hid (hk1.more hkW (fun _ f => f.elim))
  have HP0 := Lib.hid hk1.size
  have HK2 := Lib.hid hk2
  have HTE := Lib.hid hTE
  have HEM : Hid (ps = [] ∨ ps ≠ []) := Lib.hid (Classical.em _)
  obtain ⟨D1, hD1⟩ : ∃ D1, date64 date = D1 := ⟨_, rfl⟩
  rw [hD1] at hcu
  have HD1 := Lib.hid hD1
  clear hTE hps hsp hkW hk1 h hD1
  -- the number of parents
  have k0 := hk2.cell c0 (fun e => by simp only at e; omega)
  have k1 := hk2.cell c1 (fun e => by simp only at e; omega)
  have k2 := hk2.cell c2 (fun e => by simp only at e; omega)
  have k3 := hk2.cell c3 (fun e => by simp only at e; omega)
  have k4 := hk2.cell c4 (fun e => by simp only at e; omega)
  obtain ⟨u1, hv1, hI1, -⟩ := HB2.out
  have hcv1 : w2.cell? ⟨w1.heap.size, 0, none⟩ = some u1 := by simp [World.cell?, hv1]
  have HP1 := Lib.hid (putUint_any w2 u1 _ ps.length (by omega) hI1 (by simp [wordsB_length]))
  clear hI1 c0 c1 c2 c3 c4 hk2
  go_wp2_with fail
  refine HP1.out.mono ?_
  rintro e w3 ⟨z1, rfl, hf1⟩
  obtain ⟨za1, zn1, zc1, rfl⟩ : ∃ a n c, z1 = .slice a n c := by obtain ⟨a, c, e, -, -⟩ := hf1.own.form; exact ⟨a, _, c, e⟩
  have e1 := (hf1.kept.block w1.heap.size (Array.getElem?_eq_some_iff.1 hv1).1 (fun f => f)).trans hv1
  have d1 : (w3).cell? ⟨w1.heap.size, 0, none⟩ = some u1 := by simp [World.cell?, e1]
  have g1 : (w3).frozen? ⟨w1.heap.size, 0, none⟩ = false := by simp [World.frozen?, e1]
  obtain ⟨X1, hX1⟩ : ∃ X, (w3).setCell ⟨w1.heap.size, 0, none⟩ (.slice za1 zn1 zc1) = X := ⟨_, rfl⟩
  have hs1 := BoxB.set (HB2).out hf1
  rw [hX1] at hs1
  have HBX1 := Lib.hid hs1.1
  have hk1 := hs1.2
  have k1 := hk1.cell k1 (fun e => by simp only at e; omega)
  have k2 := hk1.cell k2 (fun e => by simp only at e; omega)
  have k3 := hk1.cell k3 (fun e => by simp only at e; omega)
  have k4 := hk1.cell k4 (fun e => by simp only at e; omega)
  have HKc1 := Lib.hid hk1
  clear hf1 e1 hs1 hk1 hv1
  have hps1 : IsI X1 (.slice pa ps.length pc) ps := by
    rcases HEM.out with he | hne
    · obtain ⟨_, _, e2, q1, q2, q3, -⟩ := HH.out.1
      exact ⟨_, _, e2, q1, q2, q3, .inl he⟩
    · exact (HH.out.1.kept HK2.out (fun g e e2 => (HH.out.2.1 g e).elim (fun h => h e2) hne)).kept HKc1.out (fun g e e2 => (HH.out.2.1 g e).elim (fun h => h e2) hne)
  have HW1 := Lib.hid (word1_any X1 w1.heap.size _ HBX1.out pa pc ps hps1 HH.out.2.1 (by
    have := uintB_len ps.length 3 (by omega) (by omega)
    simp [wordsB_length]
    omega))
  clear hps1
  go_wp2_with fail
  refine HW1.out.mono ?_
  rintro e w5 ⟨rfl, hb5, hk5⟩
  have HB5 := Lib.hid hb5
  have k2 := hk5.cell k2 (fun e => by simp only at e; omega)
  have k3 := hk5.cell k3 (fun e => by simp only at e; omega)
  have k4 := hk5.cell k4 (fun e => by simp only at e; omega)
  have k1 := hk5.cell k1 (fun e => by simp only at e; omega)
  have HK5 := Lib.hid hk5
  clear hb5 hk5
  obtain ⟨u2, hv2, hI2, -⟩ := (HB5).out
  have hcv2 : (w5).cell? ⟨w1.heap.size, 0, none⟩ = some u2 := by simp [World.cell?, hv2]
  have hlen5 : ([99] ++ wordsB [tree] ++ uintB ps.length ++ wordsB ps).length ≤ 1000 := by
    have := uintB_len ps.length 3 (by omega) (by omega)
    simp [wordsB_length]
    omega
  have hlen6 : ([99] ++ wordsB [tree] ++ uintB ps.length ++ wordsB ps ++ [0]).length ≤ 1001 := by
    have h8 : [(0 : UInt8)].length = 1 := rfl
    rw [List.length_append]
    omega
  have hlen7 : ([99] ++ wordsB [tree] ++ uintB ps.length ++ wordsB ps ++ [0] ++ wordB D1).length ≤ 1009 := by
    have h9 : (wordB D1).length = 8 := by simp [wordB]
    rw [List.length_append]
    omega
  have hT2 := putText_any w5 u2 _ { data := #[] } (by decide) hI2 (by omega)
  rw [HTE.out] at hT2
  have HP2 := Lib.hid hT2
  clear hI2 hT2
  go_wp2_with fail
  refine HP2.out.mono ?_
  rintro e w6 ⟨z2, rfl, hf2⟩
  obtain ⟨za2, zn2, zc2, rfl⟩ : ∃ a n c, z2 = .slice a n c := by obtain ⟨a, c, e, -, -⟩ := hf2.own.form; exact ⟨a, _, c, e⟩
  have e2 := (hf2.kept.block w1.heap.size (Array.getElem?_eq_some_iff.1 hv2).1 (fun f => f)).trans hv2
  have d2 : (w6).cell? ⟨w1.heap.size, 0, none⟩ = some u2 := by simp [World.cell?, e2]
  have g2 : (w6).frozen? ⟨w1.heap.size, 0, none⟩ = false := by simp [World.frozen?, e2]
  obtain ⟨X2, hX2⟩ : ∃ X, (w6).setCell ⟨w1.heap.size, 0, none⟩ (.slice za2 zn2 zc2) = X := ⟨_, rfl⟩
  have hs2 := BoxB.set (HB5).out hf2
  rw [hX2] at hs2
  have HBX2 := Lib.hid hs2.1
  have hk2 := hs2.2
  have k1 := hk2.cell k1 (fun e => by simp only at e; omega)
  have k2 := hk2.cell k2 (fun e => by simp only at e; omega)
  have k3 := hk2.cell k3 (fun e => by simp only at e; omega)
  have k4 := hk2.cell k4 (fun e => by simp only at e; omega)
  have HKc2 := Lib.hid hk2
  clear hf2 e2 hs2 hk2 hv2
  obtain ⟨u3, hv3, hI3, -⟩ := (HBX2).out
  have hcv3 : (X2).cell? ⟨w1.heap.size, 0, none⟩ = some u3 := by simp [World.cell?, hv3]
  have HP3 := Lib.hid (putWord_any X2 u3 _ D1 hI3 (by omega))
  clear hI3
  go_wp2_with fail
  refine HP3.out.mono ?_
  rintro e w7 ⟨z3, rfl, hf3⟩
  obtain ⟨za3, zn3, zc3, rfl⟩ : ∃ a n c, z3 = .slice a n c := by obtain ⟨a, c, e, -, -⟩ := hf3.own.form; exact ⟨a, _, c, e⟩
  have e3 := (hf3.kept.block w1.heap.size (Array.getElem?_eq_some_iff.1 hv3).1 (fun f => f)).trans hv3
  have d3 : (w7).cell? ⟨w1.heap.size, 0, none⟩ = some u3 := by simp [World.cell?, e3]
  have g3 : (w7).frozen? ⟨w1.heap.size, 0, none⟩ = false := by simp [World.frozen?, e3]
  obtain ⟨X3, hX3⟩ : ∃ X, (w7).setCell ⟨w1.heap.size, 0, none⟩ (.slice za3 zn3 zc3) = X := ⟨_, rfl⟩
  have hs3 := BoxB.set (HBX2).out hf3
  rw [hX3] at hs3
  have HBX3 := Lib.hid hs3.1
  have hk3 := hs3.2
  have k1 := hk3.cell k1 (fun e => by simp only at e; omega)
  have k2 := hk3.cell k2 (fun e => by simp only at e; omega)
  have k3 := hk3.cell k3 (fun e => by simp only at e; omega)
  have k4 := hk3.cell k4 (fun e => by simp only at e; omega)
  have HKc3 := Lib.hid hk3
  clear hf3 e3 hs3 hk3 hv3
  obtain ⟨u4, hv4, hI4, -⟩ := (HBX3).out
  have hcv4 : (X3).cell? ⟨w1.heap.size, 0, none⟩ = some u4 := by simp [World.cell?, hv4]
  have hT4 := putText_any X3 u4 _ { data := #[] } (by decide) hI4 (by omega)
  rw [HTE.out] at hT4
  have HP4 := Lib.hid hT4
  clear hI4 hT4
  go_wp2_with fail
  refine HP4.out.mono ?_
  rintro e w8 ⟨z4, rfl, hf4⟩
  go_wp2
  go_ret2
  refine ⟨_, rfl, ?_⟩
  have hpw : w.heap.size ≤ w1.heap.size := HP0.out
  have hkX : Kept (· = w1.heap.size) W X3 := (((HK2.out.trans HKc1.out (fun _ _ h => h)).trans HK5.out (fun _ _ h => h)).trans HKc2.out (fun _ _ h => h)).trans HKc3.out (fun _ _ h => h)
  have hfin := hf4.behind (HKW.out.more hkX (fun i e => by omega))
  have he : [99] ++ wordsB [tree] ++ uintB ps.length ++ wordsB ps ++ [0] ++ wordB D1 ++ [0] = encC tree ps date := by
    unfold encC
    rw [HD1.out]
    simp [wordsB]
  rw [he] at hfin
  exact hfin

theorem FreshB.appAny {w0 w : World} {v v2 : Value} {bs ys : List UInt8} (h : FreshB w0 v bs w) (hy : IsB w v2 ys) (hl : bs.length + ys.length ≤ 140737488355328) :
    ∃ v' w', (Builtin.append_ #[64, 64] 64 #[v, v2]).run Tryz.prog w = .ok v' w' ∧ FreshB w0 v' (bs ++ ys) w' := by
  obtain ⟨v', w', hrun, ho, hg, hb, -⟩ := run_append_bytes w v v2 bs ys h.own hy hl
  refine ⟨v', w', hrun, ho, h.kept.more (Kept.grown (F := fun k => v.ownBlock = some k) (Kept.refl _ _) hg (fun k hk _ => hk)) (fun i hi => h.new i hi), fun g hg' => ?_⟩
  rcases hb g hg' with h1 | ⟨rfl, -⟩
  · exact h.new g h1
  · exact h.kept.size
theorem byteOwn (w : World) (x : UInt8) (n : Int) (hn : n = (x.toNat : Int)) : FreshB w (.slice (some ⟨w.heap.size, 0, none⟩) 1 1) [x] (w.alloc (.cells #[.int .u8 n] 5)) := by
  subst hn
  exact ⟨⟨rfl, .inr ⟨w.heap.size, 1, _, rfl, Nat.zero_le _, heap_alloc_new w _, Nat.le_refl _, by simp [maxLen], rfl, rfl⟩⟩, (Kept.refl _ _).alloc _, fun g hg => by cases hg; exact Nat.le_refl _⟩
set_option maxRecDepth 100000 in
theorem encode_blob (w : World) (a : Option Addr) (c : Nat) (bs : List UInt8) (h : IsB w (.slice a bs.length c) bs) (hl : bs.length ≤ 4096) :
    Calls Tryz.prog 42 #[.iface 66 (.agg #[.slice a bs.length c])] w fun e w' => ∃ v, e = .returned (.tuple #[v, .int .i64 0]) ∧ FreshB w v ([98] ++ bs) w' := by
  have hCK := Lib.hid (check_blob w a bs.length c hl)
  have tb : ∀ w, (Instr.typeAssert (.iface 66 (.agg #[.slice a bs.length c])) 63 66 true).run Tryz.prog w = .ok (.tuple #[.agg #[.slice a bs.length c], .bool true]) w := fun w => ta_yes Tryz.underlying66 _ w
  have H := Lib.hid h
  clear h
  go_enter Tryz.func42, Tryz.ntmps42
  go_wp2_with fail
  refine hCK.out.mono ?_
  rintro e w1 ⟨rfl, hk1⟩
  obtain ⟨w3, hw3⟩ : ∃ w3, (w1.alloc (.cells #[.slice none 0 0] 64)).alloc (.cells #[.slice a bs.length c] 66) = w3 := ⟨_, rfl⟩
  have hk3 : Kept (fun _ => False) w1 w3 := by rw [← hw3]; exact ((Kept.refl _ _).alloc _).alloc _
  have hz3 : w3.heap.size = w1.heap.size + 1 + 1 := by rw [← hw3]; simp
  have hF := byteOwn w3 98 98 rfl
  obtain ⟨v', w', hrun, hf⟩ := hF.appAny ((H.out.keptF (hk1.trans (hk3.trans hF.kept (fun _ _ h => h)) (fun _ _ h => h)) (fun _ _ f => f))) (by simp; omega)
  rw [hz3, ← hw3] at hrun
  have hf2 := Lib.hid (hf.behind (hk1.trans hk3 (fun _ _ h => h)))
  clear hF hf hk3 hw3
  go_wp2_with (at_builtin; refine wpList_append_run rfl (.tmp 26) (.tmp 28) #[64, 64] rfl _ _ _ _ rfl rfl hrun ?_)
  go_ret2
  exact ⟨_, rfl, hf2.out⟩
theorem encode_tree0 (w : World) : Calls Tryz.prog 42 #[.iface 106 (.agg #[.slice none 0 0])] w fun e w' => ∃ v, e = .returned (.tuple #[v, .int .i64 0]) ∧ FreshB w v [116, 0] w' := by
  have tb : ∀ w, (Instr.typeAssert (.iface 106 (.agg #[.slice none 0 0])) 63 66 true).run Tryz.prog w = .ok (.tuple #[.agg #[.slice none 0 0], .bool false]) w := fun w => ta_no Tryz.underlying66 (by decide) zero_blob _ w
  have tt : ∀ w, (Instr.typeAssert (.iface 106 (.agg #[.slice none 0 0])) 63 106 true).run Tryz.prog w = .ok (.tuple #[.agg #[.slice none 0 0], .bool true]) w := fun w => ta_yes Tryz.underlying106 _ w
  have hCK := Lib.hid (check_tree0 w)
  go_enter Tryz.func42, Tryz.ntmps42
  go_wp2_with fail
  refine hCK.out.mono ?_
  rintro e w1 ⟨rfl, hk1⟩
  go_wp2_with fail
  refine callsAt ?_
  intro W hW
  have hW2 : W = allocs w1 [.cells #[.slice none 0 0] 64, .cells #[.slice none 0 0] 66, .cells #[.slice none 0 0] 106, .cells #[.int .u8 116] 5] := hW
  clear hW
  generalize hos : [Obj.cells #[.slice none 0 0] 64, .cells #[.slice none 0 0] 66, .cells #[.slice none 0 0] 106, .cells #[.int .u8 116] 5] = os at hW2
  have hkW : Kept (fun _ => False) w1 W := by rw [hW2]; exact allocs_kept _ _
  have hob : ∀ i o, os[i]? = some o → W.heap[w1.heap.size + i]? = some o := fun i o h => by rw [hW2]; exact allocs_heap _ _ _ _ h
  have b0 := hob 0 _ (by rw [← hos]; rfl)
  have b2 := hob 2 _ (by rw [← hos]; rfl)
  have b3 := hob 3 _ (by rw [← hos]; rfl)
  clear hob hos hW2
  have c2 : W.cell? ⟨w1.heap.size + 2, 0, none⟩ = some (.slice none 0 0) := by simp [World.cell?, b2]
  have hsW : w1.heap.size + 3 < W.heap.size := (Array.getElem?_eq_some_iff.1 b3).1
  have hI : IsB W (.slice (some ⟨w1.heap.size + 3, 0, none⟩) 1 1) [116] := ⟨_, _, rfl, Nat.le_refl _, by simp [maxLen], .inr ⟨_, _, rfl, by omega, fun i x hx => by
    match i, hx with
    | 0, hx => cases hx; simp [World.cell?, b3]
    | i + 1, hx => simp [bytesV] at hx⟩⟩
  have hu : uintB 0 = [0] := by decide +kernel
  refine (putUint_any W _ [116] 0 (by omega) hI (by simp)).mono ?_
  rintro e w2 ⟨v, rfl, hf⟩
  rw [hu] at hf
  obtain ⟨va, vc, rfl, -, -⟩ := hf.own.form
  have e2 := (hf.kept.block (w1.heap.size + 2) (Array.getElem?_eq_some_iff.1 b2).1 (fun f => f)).trans b2
  have d2 : w2.cell? ⟨w1.heap.size + 2, 0, none⟩ = some (.slice none 0 0) := by simp [World.cell?, e2]
  have e0 := (hf.kept.block (w1.heap.size + 0) (Array.getElem?_eq_some_iff.1 b0).1 (fun f => f)).trans b0
  rw [Nat.add_zero] at e0
  have d0 : w2.cell? ⟨w1.heap.size, 0, none⟩ = some (.slice none 0 0) := by simp [World.cell?, e0]
  have f0 : w2.frozen? ⟨w1.heap.size, 0, none⟩ = false := by simp [World.frozen?, e0]
  have HFB := Lib.hid (hf.boxed (hk1.more hkW (fun _ f => f.elim)) (B := w1.heap.size) hk1.size (by omega))
  have HK := Lib.hid (hk1.more hkW (fun _ f => f.elim))
  have HS := Lib.hid hk1.size
  clear hf hI b0 b2 b3 c2 hkW hk1 e0 e2
  go_wp2_with fail
  go_loopw [45] (fun i wr => i = .int .i64 0 ∧ wr = w2.setCell ⟨w1.heap.size, 0, none⟩ (.slice va 2 vc)) (fun _ _ => 0)
  case atStart => exact ⟨rfl, rfl⟩
  case round =>
    obtain ⟨rfl, rfl⟩ := hrel
    clear tb tt
    go_wp2
    go_ret2
    exact ⟨_, rfl, HFB.out _⟩
end Go.Proofs.YtikacgiccllolaaGreat
