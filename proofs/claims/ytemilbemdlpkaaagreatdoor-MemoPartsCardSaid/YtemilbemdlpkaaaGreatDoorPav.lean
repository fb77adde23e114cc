/- contracts of the library for this translation (laid by the kit's program) -/
import Derived.Shelf.Spec.SlicesGrow
import Derived.Ground.Names8Prog
import Derived.Test.YtemilbemdlpkaaaGreatDoorProg
import Derived.Test.YtemilbemdlpkaaaGreatDoorPau
import Derived.RangeFuncNested
import Derived.RangeFuncBound
import Derived.RangeFuncCalls
import Derived.RangeFuncLeaves
import Derived.RangeFuncBox
import Derived.Shelf.Abstract
import Derived.OwnWalkIn
import Derived.TacticsInMore
import Derived.LoopNIn
import Derived.LoopIn
import Derived.Maps.OwnIn
import Derived.RangeFuncWrites
import Derived.RangeFuncFrom
namespace Go.Proofs
open Go.Shelf
def Tryz.growB_ren : Go.Shelf.Ren := ⟨fun | 4 => 79 | n => n, fun | 22 => 25 | 25 => 5 | 3 => 3 | 4 => 4 | 9 => 9 | 20 => 20 | 0 => 0 | n => n, fun | n => n⟩
theorem Tryz.growB : Go.Proofs.Lays8.n4 Tryz.prog Tryz.growB_ren := {
  mixed := by kernel_rfl
  f4 := ⟨Tryz.f79.name, by decide, Tryz.func79.trans (congrArg some (by kernel_rfl))⟩
  t0 := Tryz.underlying0
  a0 := Tryz.isAgg0
  z0 := Tryz.sizeOf0
  v0 := Tryz.zeroValue0
  t3 := Tryz.underlying3
  a3 := Tryz.isAgg3
  z3 := Tryz.sizeOf3
  v3 := Tryz.zeroValue3
  t4 := Tryz.underlying4
  a4 := Tryz.isAgg4
  z4 := Tryz.sizeOf4
  v4 := Tryz.zeroValue4
  t9 := Tryz.underlying9
  a9 := Tryz.isAgg9
  z9 := Tryz.sizeOf9
  v9 := Tryz.zeroValue9
  t20 := Tryz.underlying20
  a20 := Tryz.isAgg20
  z20 := Tryz.sizeOf20
  v20 := Tryz.zeroValue20
  t22 := Tryz.underlying25
  a22 := Tryz.isAgg25
  z22 := Tryz.sizeOf25
  v22 := Tryz.zeroValue25 }
end Go.Proofs

/- run: Check, bytes. -/
namespace Go.Proofs.YtemilbemdlpkaaaGreatDoor
open Go.RowKit Go.ChangeMaps Go.MapKept

def checkOf (bs : List UInt8) : Int × Int := if (pairsOf bs).2 = true then ((pairsOf bs).1.length, 0) else (0, 8)

set_option maxRecDepth 100000 in
theorem check_any (w : World) (a : Option Addr) (c : Nat) (bs : List UInt8) (h : IsB w (.slice a bs.length c) bs) (hlen : bs.length ≤ 100000000000000) :
    Calls Tryz.prog 95 #[.slice a bs.length c] w fun e w' => e = .returned (.tuple #[.int .i64 (checkOf bs).1, .int .i64 (checkOf bs).2]) ∧ Kept (fun _ => False) w w' := by
  unfold checkOf
  have hp := pairs_any w a c bs h hlen
  obtain ⟨⟨l, ok⟩, hq⟩ : ∃ q, pairsOf bs = q := ⟨_, rfl⟩
  rw [hq] at hp ⊢
  clear hq
  cases ok with
  | false =>
    go_enter Tryz.func95, Tryz.ntmps95
    go_wp2_with fail
    refine hp.mono ?_
    rintro e w1 ⟨v, rfl, -, hk⟩
    go_wp2
    go_ret2
    exact ⟨rfl, hk⟩
  | true =>
    go_enter Tryz.func95, Tryz.ntmps95
    go_wp2_with fail
    refine hp.mono ?_
    rintro e w1 ⟨v, rfl, hown, hk⟩
    obtain ⟨la, lc, rfl, -, -⟩ := hown.form
    go_wp2
    go_ret2
    exact ⟨rfl, hk⟩

/-- A row of pairs, wherever it lies. -/
def IsP (w : World) (v : Value) (l : List (Nat × Nat)) : Prop :=
  ∃ a c, v = .slice a l.length c ∧ l.length ≤ c ∧ c ≤ maxLen ∧ (∀ p ∈ l, p.1 < 18446744073709551616 ∧ p.2 < 18446744073709551616) ∧ (l = [] ∨ ∃ g o, a = some ⟨g, o, none⟩ ∧ g < w.heap.size ∧ ∀ i x, (flatP l)[i]? = some x → w.cell? ⟨g, o + i, none⟩ = some x)

theorem flatP_get (l : List (Nat × Nat)) (k : Nat) (hk : k < l.length) : (flatP l)[k * 2]? = some (.int .u64 l[k].1) ∧ (flatP l)[k * 2 + 1]? = some (.int .u64 l[k].2) := by
  induction l generalizing k with
  | nil => simp at hk
  | cons p l ih =>
    cases k with
    | zero => simp [flatP, encP]
    | succ k =>
      have := ih k (by simpa using hk)
      simp only [flatP, List.flatMap_cons, List.getElem_cons_succ] at this ⊢
      rw [List.getElem?_append_right (by simp [encP]; omega), List.getElem?_append_right (by simp [encP]; omega), show (k + 1) * 2 - (encP p).length = k * 2 from by simp [encP]; omega, show (k + 1) * 2 + 1 - (encP p).length = k * 2 + 1 from by simp [encP]; omega]
      exact this

theorem grow_any {w0 w : World} {v : Value} {bs : List UInt8} (h : NewB w0 w v bs) (hk0 : w0.heap.size ≤ w.heap.size) (n : Nat) (hn : bs.length + n ≤ 100000000000000) :
    Calls Tryz.prog 79 #[v, .int .i64 n] w fun e w' => ∃ v', e = .returned v' ∧ NewB w0 w' v' bs ∧ Kept (fun _ => False) w w' := by
  obtain ⟨i0, hi, hz0, hz1, hz2⟩ := info_parts Tryz.info5
  have hgrow : ∀ (base : Option Addr) (c : Nat) (cs : List Value), v = .slice base bs.length c → bs.length ≤ c → c ≤ maxLen → c < bs.length + n → cs.length = c → (base = none → c = 0) → (∀ a, base = some a → ∀ j u, cs[j]? = some u → w.cell? (a.add j) = some u) → cs.take bs.length = bytesV bs →
      Calls Tryz.prog 79 #[v, .int .i64 n] w fun e w' => ∃ v', e = .returned v' ∧ NewB w0 w' v' bs ∧ Kept (fun _ => False) w w' := by
    intro base c cs hv hlc hcm hroom hcl hnil hcs htake
    subst hv
    refine (Any8.slices_Grow_grow Tryz.growB i0 _ hi hz0 (by rw [hz1]; decide) base bs.length c n cs w hlc hroom (by rw [hz2]; omega) (by omega) (by rw [hz1]; omega) hnil hcs).mono ?_
    rintro e w' ⟨rfl, rfl⟩
    refine ⟨_, rfl, ?_, ((Kept.refl _ _).drew).alloc _⟩
    have hG := grownCap_ge w (bs.length + n) c 5
    have hGm := grownCap_le_maxLen w (bs.length + n) c 5 (by unfold maxLen; omega)
    refine ⟨by simp, .inr ⟨w.heap.size, _, _, rfl, hk0, heap_alloc_new w.drew _, ?_, hGm, ?_, ?_⟩⟩
    · show bs.length ≤ grownCap w (bs.length + n) c 5; omega
    · simp only [Array.size_append, List.size_toArray, size_zeroCells, hcl]
      show c + (bs.length + n - c) * 1 + (grownCap w (bs.length + n) c 5 - (bs.length + n)) * 1 = grownCap w (bs.length + n) c 5 * 1
      omega
    · simp only [Array.toList_append, List.append_assoc]
      rw [Nat.mul_one, List.take_append_of_le_length (by omega)]
      exact htake
  rcases h.2 with ⟨rfl, h0⟩ | ⟨g, cap, cur, rfl, hb, hg, hn', hc, hs, ht⟩
  · have hb0 : bs = [] := List.length_eq_zero_iff.1 h0
    subst hb0
    by_cases hn0 : n = 0
    · subst hn0
      refine (Any8.slices_Grow_room Tryz.growB none 0 0 0 w (by omega) (by omega) (by omega) (by omega)).mono ?_
      rintro e w' ⟨rfl, rfl⟩
      exact ⟨_, rfl, h, Kept.refl _ _⟩
    · exact hgrow none 0 [] rfl (by simp) (by simp) (by simp; omega) rfl (fun _ => rfl) (fun a ha => by cases ha) (by simp [bytesV])
  · by_cases hroom : bs.length + n ≤ cap
    · refine (Any8.slices_Grow_room Tryz.growB (some ⟨g, 0, none⟩) bs.length cap n w hn' (by unfold maxLen at hc; omega) (by omega) hroom).mono ?_
      rintro e w' ⟨rfl, rfl⟩
      exact ⟨_, rfl, ⟨h.1, .inr ⟨g, cap, cur, rfl, hb, hg, hn', hc, hs, ht⟩⟩, Kept.refl _ _⟩
    · refine hgrow (some ⟨g, 0, none⟩) cap cur.toList rfl hn' hc (by omega) (by simpa using hs) (fun e => by cases e) (fun a ha j u hu => ?_) (by simpa using ht)
      cases ha
      rw [addr_add, Nat.zero_add, cell_of_row w g j cur 5 (0, 0) hg]
      simpa using hu

def bodyB (l : List (Nat × Nat)) : List UInt8 := l.flatMap fun p => wordB p.1 ++ wordB p.2
def bytesHead (l : List (Nat × Nat)) : List UInt8 := uintB l.length ++ bodyB l
def bytesOf (l : List (Nat × Nat)) : List UInt8 := bytesHead l ++ wordB (hashB (bytesHead l))

/-- Bytes behind a row of our own. -/
theorem NewB.app {w0 w : World} {v : Value} {bs ys : List UInt8} (h : NewB w0 w v bs) (hk0 : w0.heap.size ≤ w.heap.size) {a : Option Addr} {n c : Nat} (hy : IsB w (.slice a n c) ys) (hne : ys ≠ []) (hl : bs.length + ys.length ≤ 140737488355328) :
    ∃ v' w', (Builtin.append_ #[25, 25] 25 #[v, .slice a n c]).run Tryz.prog w = .ok v' w' ∧ NewB w0 w' v' (bs ++ ys) ∧ Kept (fun k => w0.heap.size ≤ k) w w' ∧ Kept (fun k => v.ownBlock = some k) w w' := by
  obtain ⟨i0, hi, hz0, hz1, hz2⟩ := info_parts Tryz.info5
  obtain ⟨a', c', he, h1, h2, h3⟩ := hy
  cases he
  obtain ⟨g, o, rfl, hg, hcell⟩ := h3.resolve_left hne
  obtain ⟨v', w', hrun, ho2, hg2, -, hb2⟩ := run_append_own_at (P := Tryz.prog) w w0.heap.size 25 25 5 i0 _ 1 1 Tryz.underlying25 hi hz0 hz1 hz2 rfl (by decide) _ _ _ h ⟨g, o, Option.none⟩ ys.length c (bytesV ys) (by simp) (fun j u hu => by rw [addr_add]; exact hcell j u hu) (bytesV_one ys) (by unfold maxLen; omega) (by omega) hk0
  refine ⟨v', w', hrun, ?_, Kept.grown (F := fun k => w0.heap.size ≤ k) (Kept.refl _ _) hg2 (fun k hk _ => (World.ownsRow.lt h k hk).1), Kept.grown (F := fun k => v.ownBlock = some k) (Kept.refl _ _) hg2 (fun k hk _ => hk)⟩
  unfold NewB
  rw [bytesV_append, List.length_append]
  exact ho2
theorem NewB.isB {w0 w : World} {v : Value} {bs : List UInt8} (h : NewB w0 w v bs) : IsB w v bs := by
  have : OwnB w v bs := by
    obtain ⟨h1, h2⟩ := h
    refine ⟨h1, ?_⟩
    rcases h2 with h2 | ⟨g, cap, cur, rfl, -, h3⟩
    · exact .inl h2
    · exact .inr ⟨g, cap, cur, rfl, Nat.zero_le _, h3⟩
  exact this.isB
theorem isB_nil (w : World) : IsB w (.slice none 0 0) [] := ⟨none, 0, rfl, Nat.le_refl _, by simp [maxLen], .inl rfl⟩
theorem bodyB_take (l : List (Nat × Nat)) (k : Nat) (hk : k < l.length) : bodyB (l.take (k + 1)) = bodyB (l.take k) ++ (wordB l[k].1 ++ wordB l[k].2) := by
  unfold bodyB; rw [List.take_succ_eq_append_getElem hk, List.flatMap_append, List.flatMap_cons, List.flatMap_nil, List.append_nil]
theorem wordB_length (x : Nat) : (wordB x).length = 8 := by simp [wordB]
theorem bodyB_length (l : List (Nat × Nat)) : (bodyB l).length = 16 * l.length := by
  induction l with
  | nil => rfl
  | cons p l ih => unfold bodyB at *; rw [List.flatMap_cons, List.length_append, ih, List.length_append, wordB_length, wordB_length]; simp; omega

set_option maxRecDepth 100000 in
set_option maxHeartbeats 1000000 in
theorem bytes_any (w : World) (a : Option Addr) (c : Nat) (l : List (Nat × Nat)) (h : IsP w (.slice a l.length c) l) (hlen : l.length ≤ 65536) :
    Calls Tryz.prog 39 #[.slice a l.length c] w fun e w' => ∃ v, e = .returned v ∧ FreshB w v (bytesOf l) w' := by
  go_enter Tryz.func39, Tryz.ntmps39
  go_wp2_with fail
  refine (putUint_any w (.slice none 0 0) [] l.length (by omega) ⟨none, 0, rfl, Nat.le_refl _, by simp [maxLen], .inl rfl⟩ (by simp)).mono ?_
  rintro e w1 ⟨v1, rfl, hf1⟩
  have hk1 := hf1.kept
  have hr1 := hf1.row
  have hul : (uintB l.length).length ≤ 3 := uintB_len _ 3 (by omega) (by omega)
  clear hf1
  simp only [List.nil_append] at hr1
  go_wp2_with fail
  refine (grow_any hr1 hk1.size (16 * l.length + 8) (by omega)).mono ?_
  rintro e w2 ⟨v2, rfl, hr2, hk2⟩
  obtain ⟨_, _, he, hlc, hcm, hlw, hcells⟩ := id h
  cases he
  have hk12 : Kept (fun _ => False) w w2 := hk1.more hk2 (fun _ h => h.elim)
  clear hr1
  go_wp2_with fail
  go_loopw [4, 19] (fun ov i wr => ∃ k : Nat, k ≤ l.length ∧ i = .int .i64 k ∧ NewB w wr ov (uintB l.length ++ bodyB (l.take k)) ∧ Kept (fun _ => False) w wr) (fun _ i _ => l.length - (intOf i).toNat)
  case atStart => exact ⟨0, Nat.zero_le _, rfl, by simpa [bodyB] using hr2, hk12⟩
  case round =>
    obtain ⟨k, hkn, rfl, hrow, hkr⟩ := hrel
    by_cases hlt : k < l.length
    · obtain ⟨⟨f, t⟩, hp⟩ : ∃ p, l[k] = p := ⟨_, rfl⟩
      have hne : l ≠ [] := fun e => by rw [e] at hlt; simp at hlt
      obtain ⟨g, o, rfl, -, hcell⟩ := hcells.resolve_left hne
      obtain ⟨hg0, hg1⟩ := flatP_get l k hlt
      have hbt := bodyB_take l k hlt
      rw [hp] at hg0 hg1 hbt
      simp only at hg0 hg1 hbt
      have hc0 : wr.cell? ⟨g, o + k * 2, none⟩ = some (.int .u64 f) := hkr.cell (hcell _ _ hg0) (fun h => h)
      have hc1 : wr.cell? ⟨g, o + k * 2 + 1, none⟩ = some (.int .u64 t) := hkr.cell (by rw [Nat.add_assoc]; exact hcell _ _ hg1) (fun h => h)
      have hNEXT : Hid (uintB l.length ++ bodyB (l.take (k + 1)) = uintB l.length ++ bodyB (l.take k) ++ (wordB f ++ wordB t)) := Lib.hid (by rw [hbt, List.append_assoc])
      have hOL : Hid ((uintB l.length ++ bodyB (l.take k)).length ≤ 2000000) := Lib.hid (by
        rw [List.length_append, bodyB_length, List.length_take]; omega)
      clear hp hcell hg0 hg1 hbt
      obtain ⟨wA, hwA, hkA, hszA, hA0, hA1⟩ := pair_new wr f t 68
      have hrowA := hrow.keptN hkA
      have hkrS := hkr.size
      obtain ⟨out, ho⟩ : ∃ out, uintB l.length ++ bodyB (l.take k) = out := ⟨_, rfl⟩
      rw [ho] at hrow hrowA hNEXT hOL
      clear ho
      obtain ⟨oa, oc, rfl, -, -⟩ := hrowA.form
      have hob : ¬ (Value.slice oa out.length oc).ownBlock = some wr.heap.size := fun e => by have := (World.ownsRow.lt hrow _ e).2; omega
      go_wp2_with fail
      go_region_held3 (fun w' => w'.cell? ⟨wr.heap.size, 0, none⟩ = some (.int .u64 f) ∧ w'.cell? ⟨wr.heap.size, 1, none⟩ = some (.int .u64 t))
        (first | exact ⟨hk5'.cell (hf4.kept.cell (hf3.kept.cell hA0 (fun h => h)) (fun h => h)) hob, hk5'.cell (hf4.kept.cell (hf3.kept.cell hA1 (fun h => h)) (fun h => h)) hob⟩ | exact ⟨hf4.kept.cell (hf3.kept.cell hA0 (fun h => h)) (fun h => h), hf4.kept.cell (hf3.kept.cell hA1 (fun h => h)) (fun h => h)⟩ | exact ⟨hf3.kept.cell hA0 (fun h => h), hf3.kept.cell hA1 (fun h => h)⟩ | exact ⟨hA0, hA1⟩)
        ((first | (refine step_append_run rfl (.tmp 23) (.tmp 29) #[25, 25] rfl _ _ _ _ rfl rfl hrun5 ?_) | (go_at_call 80; refine (putWord_any _ _ _ t hf3.own.isB (by simp [wordB])).mono ?_; rintro e' w4 ⟨v4, rfl, hf4⟩; obtain ⟨a4, c4, rfl, -, -⟩ := hf4.own.form; obtain ⟨v5, w5, hrun5, ho5, hk5, hk5'⟩ := NewB.app (((hrowA.keptN (kept_drew wA)).keptN hf3.kept).keptN hf4.kept) (by have := hf3.kept.size; have := hf4.kept.size; have := (kept_drew wA).size; omega) hf4.own.isB (by simp [wordB]) (by have := hOL.out; simp [wordB]; omega)) | (go_at_call 80; refine (putWord_any _ _ _ f (isB_nil _) (by simp)).mono ?_; rintro e' w3 ⟨v3, rfl, hf3⟩)))
      go_wp2
      go_roundw
      case rel =>
        have hkE : Kept (fun _ => False) w w5 := ((((hkr.more hkA (fun _ h => h.elim)).more (kept_drew wA) (fun _ h => h.elim)).more hf3.kept (fun _ h => h.elim)).more hf4.kept (fun _ h => h.elim)).more hk5 (fun _ h => h)
        exact ⟨k + 1, by omega, by go_num, by rw [hNEXT.out]; exact ho5, hkE⟩
      case measure => simp [intOf]; omega
    · have hE : Hid (uintB l.length ++ bodyB (l.take k) = bytesHead l) := Lib.hid (by rw [List.take_of_length_le (by omega)]; rfl)
      rw [hE.out] at hrow
      have hHL : Hid ((bytesHead l).length ≤ 2000000) := Lib.hid (by unfold bytesHead; rw [List.length_append, bodyB_length]; omega)
      have hBE : Hid (bytesOf l = bytesHead l ++ wordB (hashB (bytesHead l))) := Lib.hid rfl
      generalize bytesHead l = out at *
      obtain ⟨oa, oc, rfl, -, -⟩ := hrow.form
      go_wp2_with fail
      refine (hash_eq hrow.isB).mono ?_
      rintro e w6 ⟨rfl, rfl⟩
      go_wp2_with fail
      refine (putWord_any _ _ out _ hrow.isB (by have := hHL.out; omega)).mono ?_
      rintro e w6 ⟨v6, rfl, hf6⟩
      go_wp2
      go_ret
      refine ⟨_, rfl, ?_⟩
      rw [hBE.out]
      exact ⟨hf6.own, hkr.more hf6.kept (fun _ h => h.elim), fun g hg => Nat.le_trans hkr.size (hf6.new g hg)⟩
end Go.Proofs.YtemilbemdlpkaaaGreatDoor

/- slices.Values at pairs: its contract. -/
namespace Go.Proofs.YtemilbemdlpkaaaGreatDoor
open Go.RowKit Go.Shelf

attribute [local go_sem] Oper.semAt_some

/-- A pair as a value. -/
def valP (p : Nat × Nat) : Value := .agg #[.int .u64 p.1, .int .u64 p.2]

/-- A row of pairs in a block below n₀. -/
def PairsIn (n₀ : Nat) (W : World) (sv : Value) (l : List (Nat × Nat)) : Prop :=
  ((∃ a c, sv = .slice a 0 c) ∧ l = []) ∨ ∃ b off cap, sv = .slice (some ⟨b, off, none⟩) l.length cap ∧ b < n₀ ∧ ∀ j (h : j < l.length), W.cell? ⟨b, off + j * 2, none⟩ = some (.int .u64 l[j].1) ∧ W.cell? ⟨b, off + j * 2 + 1, none⟩ = some (.int .u64 l[j].2)
theorem PairsIn.below {n₀ : Nat} {A B : World} (h : Below n₀ A B) {sv : Value} {l : List (Nat × Nat)} : PairsIn n₀ A sv l → PairsIn n₀ B sv l
  | .inl e => .inl e
  | .inr ⟨b, off, cap, e, hb, hc⟩ => .inr ⟨b, off, cap, e, hb, fun j hj => ⟨(h.cell (p := ⟨b, off + j * 2, none⟩) hb).trans (hc j hj).1, (h.cell (p := ⟨b, off + j * 2 + 1, none⟩) hb).trans (hc j hj).2⟩⟩

set_option maxRecDepth 100000 in
set_option maxHeartbeats 2000000 in
theorem values1_in (F : Fence) (n : Nat) (h7 : F.fn 76) (hro : F.round = none) (hn : 1 ≤ n) (l Bs n₀ b off cap : Nat) (zs : List (Nat × Nat)) (hlen : zs.length ≤ 1000000000000) (hb : b < n₀) (J Jx : List (Nat × Nat) → World → Prop) (W : World) (hn₀ : n₀ ≤ W.heap.size) (hJ : AbidesFrom W.heap.size J)
    (hY : ∀ pre x W, J pre W → pre.length < zs.length → YieldAt F (n - 1) Tryz.prog l #[valP x] W fun e W' =>
      (e = .returned (.bool true) ∧ J (pre ++ [x]) W' ∧ Below n₀ W W') ∨ (e = .returned (.bool false) ∧ Jx (pre ++ [x]) W'))
    (hBs : W.cell? ⟨Bs, 0, none⟩ = some (.slice (some ⟨b, off, none⟩) zs.length cap)) (hc : ∀ j (h : j < zs.length), W.cell? ⟨b, off + j * 2, none⟩ = some (.int .u64 zs[j].1) ∧ W.cell? ⟨b, off + j * 2 + 1, none⟩ = some (.int .u64 zs[j].2)) (h0 : J [] W) :
    CallsIn F n Tryz.prog 76 #[.func (.yield l) #[] #[], .pointer (some ⟨Bs, 0, none⟩)] W fun e W' => (∃ v, e = .returned v) ∧
      ((∃ ys, ys = zs ∧ J ys W') ∨ (∃ pre, (∃ k, k ≤ zs.length ∧ pre = zs.take k) ∧ Jx pre W')) := by
  refine callsIn_of_wp Tryz.func76 rfl h7 ?_ hro
  simp only [Tryz.ntmps76, List.size_toArray, List.length_cons, List.length_nil, Nat.reduceAdd, Nat.reduceSub, Array.replicate_succ, Array.replicate_zero, List.push_toArray, List.append_toArray, List.nil_append, List.cons_append]
  gi_wp2
  gi_loopw [7] (fun i wr => ∃ k : Nat, k ≤ zs.length ∧ i = .int .i64 k ∧ J (zs.take k) wr ∧ Below n₀ W wr) (fun i _ => zs.length - (intOf i).toNat)
  case atStart => exact ⟨0, Nat.zero_le _, rfl, h0, Below.refl _ _⟩
  case round =>
    obtain ⟨k, hk, rfl, hJs, hnx⟩ := hrel
    by_cases hlt : k < zs.length
    · have hc0 : wr.cell? ⟨b, off + k * 2, none⟩ = some (.int .u64 zs[k].1) := (hnx.cell (p := ⟨b, off + k * 2, none⟩) hb).trans (hc k hlt).1
      have hc1 : wr.cell? ⟨b, off + k * 2 + 1, none⟩ = some (.int .u64 zs[k].2) := (hnx.cell (p := ⟨b, off + k * 2 + 1, none⟩) hb).trans (hc k hlt).2
      obtain ⟨wA, hwA, hkA, hszA, hA0, hA1⟩ := pair_new wr zs[k].1 zs[k].2 68
      have hJA : J (zs.take k) wA := by
        rw [← hwA]
        exact hJ _ _ _ Option.none hJs (World.grownBy_alloc wr _ Option.none) (fun r e => by cases e)
      have hBA : Below n₀ wr wA := by rw [← hwA]; exact (Below.refl n₀ wr).alloc (Nat.le_trans hn₀ hnx.size) _
      obtain ⟨fn, tmps, assign, body, hy, hR⟩ := hY _ zs[k] wA hJA (by rw [List.length_take]; omega)
      unfold valP at hy
      gi_wp2
      refine hR.mono ?_
      rintro e W3 (⟨rfl, hJ3, hk3⟩ | ⟨rfl, hJx3⟩)
      · gi_wp2
        go_roundw
        case rel => exact ⟨k + 1, by omega, by go_num, by rw [List.take_succ_eq_append_getElem hlt]; exact hJ3, (hnx.trans hBA).trans hk3⟩
        case measure => simp [intOf]; omega
      · gi_wp2
        refine bodyPost_ret (results_none rfl _ _ _) rfl ?_
        exact ⟨⟨_, rfl⟩, .inr ⟨_, ⟨k + 1, by omega, (List.take_succ_eq_append_getElem hlt).symm⟩, hJx3⟩⟩
    · gi_wp2
      go_end0
      refine ⟨⟨_, rfl⟩, .inl ⟨_, rfl, ?_⟩⟩
      rw [List.take_of_length_le (by omega)] at hJs
      exact hJs

set_option maxRecDepth 100000 in
set_option maxHeartbeats 1000000 in
theorem values1_nil_in (F : Fence) (n : Nat) (h7 : F.fn 76) (hro : F.round = none) (l Bs : Nat) (J : List (Nat × Nat) → World → Prop) (W : World) (a0 : Option Addr) (c0 : Nat) (hBs : W.cell? ⟨Bs, 0, none⟩ = some (.slice a0 0 c0)) (h0 : J [] W) :
    CallsIn F n Tryz.prog 76 #[.func (.yield l) #[] #[], .pointer (some ⟨Bs, 0, none⟩)] W fun e W' => (∃ v, e = .returned v) ∧ J [] W' := by
  refine callsIn_of_wp Tryz.func76 rfl h7 ?_ hro
  simp only [Tryz.ntmps76, List.size_toArray, List.length_cons, List.length_nil, Nat.reduceAdd, Nat.reduceSub, Array.replicate_succ, Array.replicate_zero, List.push_toArray, List.append_toArray, List.nil_append, List.cons_append]
  gi_wp2
  gi_loopw [7] (fun i wr => i = .int .i64 0 ∧ J [] wr) (fun _ _ => 0)
  case atStart => exact ⟨rfl, h0⟩
  case round =>
    obtain ⟨rfl, hJs⟩ := hrel
    gi_wp2
    go_end0
    exact ⟨⟨_, rfl⟩, hJs⟩

theorem values_stops (F : Fence) (n : Nat) (h7 : F.fn 76) (hro : F.round = none) (hn : 1 ≤ n) (Bs n₀ : Nat) (sv : Value) (zs : List (Nat × Nat)) (hlen : zs.length ≤ 1000000000000) (w : World) (hBs : Bs < w.heap.size) (hn₀ : n₀ ≤ w.heap.size)
    (hc : w.cell? ⟨Bs, 0, none⟩ = some sv) (hI : PairsIn n₀ w sv zs) :
    SeqStopsK F n Tryz.prog 76 #[.pointer (some ⟨Bs, 0, none⟩)] (fun x : Nat × Nat => #[valP x]) (Below n₀) (fun ys => ys = zs) (fun pre => pre <+: zs) zs.length w := fun l J Jx W hW hJ _ hY h0 => by
  have hc' := (hW.cell (p := ⟨Bs, 0, none⟩) hBs).trans hc
  rcases hI.below (hW.mono hn₀) with ⟨⟨_, _, rfl⟩, rfl⟩ | ⟨b, off, cap, rfl, hb, hcs⟩
  · exact (values1_nil_in F n h7 hro l Bs J W _ _ hc' h0).mono fun e W' ⟨he, hj⟩ => ⟨he, .inl ⟨_, rfl, hj⟩⟩
  · refine (values1_in F n h7 hro hn l Bs n₀ b off cap zs hlen hb J Jx W (Nat.le_trans hn₀ hW.size) hJ hY hc' hcs h0).mono ?_
    rintro e W' ⟨he, ⟨ys, rfl, hj⟩ | ⟨pre, ⟨k, hk, rfl⟩, hj⟩⟩
    · exact ⟨he, .inl ⟨_, rfl, hj⟩⟩
    · exact ⟨he, .inr ⟨_, List.take_prefix _ _, hj⟩⟩
theorem values_any (a : Option Addr) (len cap : Nat) (w : World) :
    Calls Tryz.prog 37 #[.slice a len cap] w fun e w' => e = .returned (.func (.func 76) #[] #[.pointer (some ⟨w.heap.size, 0, none⟩)]) ∧ w' = w.alloc (.cells #[.slice a len cap] 22) := by
  go_enter Tryz.func37, Tryz.ntmps37
  go_wp2
  go_ret
  exact ⟨rfl, rfl⟩

set_option maxRecDepth 100000 in
set_option maxHeartbeats 2000000 in
/-- AppendSeq at pairs, over whatever gives these pairs. -/
theorem appendSeq_in (F : Fence) (n : Nat) (h3 : F.fn 117) (hro : F.round = none) (hn : 3 ≤ n) (gf : Nat) (lb : Array Value) (hFg : F.fn gf) (eg : ∀ args w, (callFunc gf args).run Tryz.prog w = .ok (.enter gf args) w) (n₀ : Nat) (zs : List (Nat × Nat)) (w : World) (hn₀ : n₀ ≤ w.heap.size) (hlen : zs.length ≤ 1000000)
    (hseq : SeqStopsK F (n - 1) Tryz.prog gf lb (fun x : Nat × Nat => #[valP x]) (Below n₀) (fun ys => ys = zs) (fun pre => pre <+: zs) zs.length w) :
    CallsIn F n Tryz.prog 117 #[.slice none 0 0, .func (.func gf) #[] lb] w fun e w' => ∃ v, e = .returned v ∧ OwnP w.heap.size w' v zs ∧ Below n₀ w w' := by
  have h1 : 1 ≤ n := by omega
  refine callsIn_of_wp_marks Tryz.func117 rfl h3 ?_ hro
  simp only [Tryz.ntmps117, List.size_toArray, List.length_cons, List.length_nil, Nat.reduceAdd, Nat.reduceSub, Array.replicate_succ, Array.replicate_zero, List.push_toArray, List.append_toArray, List.nil_append, List.cons_append]
  gi_wp2
  obtain ⟨i0, hi, hz0, hz1, hz2⟩ := info_parts Tryz.info68
  obtain ⟨W0, hW0⟩ : ∃ W0, w.alloc (.cells #[.slice none 0 0] 22) = W0 := ⟨_, rfl⟩
  have hsz0 : W0.heap.size = w.heap.size + 1 := by rw [← hW0]; simp
  have hbW0 : Below w.heap.size w W0 := by rw [← hW0]; exact (Below.refl _ w).alloc (Nat.le_refl _) _
  have hbox0 : Boxed W0 w.heap.size 22 (.slice none 0 0) := by rw [← hW0]; exact Boxed.new w _ _
  rw [hW0]
  refine wpIn_rangeFunc_ownH hro h1 (gf := gf) (lb := lb) rfl hFg eg hseq (fun h k => h.trans k) (fun W l o o' hl ho hc _ => belowK_b (n₀ := n₀) (w := W0) (by omega) W l o o' hl ho hc (by assumption)) hbW0 (fun _ => rfl)
    (fun pre W => (∃ v, Boxed W w.heap.size 22 v ∧ W.ownsRow w.heap.size 68 2 v pre.length (flatP pre) ∧ True) ∧ Below w.heap.size w W)
    (fun _ _ _ => False) ?hI (fun _ _ _ _ _ hs _ _ => hs) ⟨⟨_, hbox0, OwnP.nil _ _, trivial⟩, hbW0⟩
    (fun x a' W => ∃ Bx, w.heap.size + 1 ≤ Bx ∧ W.heap[Bx]? = some (.cells #[.int .u64 x.1, .int .u64 x.2] 68 (0, 0)) ∧ a' = { tmps := #[.slice none 0 0, .func (.func gf) #[] lb, .pointer (some ⟨w.heap.size, 0, none⟩), undef, .slice none 0 0, .pointer (some ⟨Bx, 0, none⟩), .func (.func gf) #[] lb, valP x, undef, undef, undef, undef, undef], defers := [] })
    ?hAx ?assign ?body ?done ?stop
  case hI =>
    refine OwnFrom.and (Own.from (holdsRow_own w.heap.size w.heap.size 22 68 2 (fun pre => pre.length) (fun pre => flatP pre) (fun _ _ => True)) _) (ownFrom_below (Nat.le_refl _) (by omega))
  case hAx =>
    rintro x a' s A B row ⟨Bx, hBx, hbX, ha⟩ hg hr
    refine ⟨Bx, hBx, (hg.block Bx (Array.getElem?_eq_some_iff.1 hbX).1 (fun e => ?_)).trans hbX, ha⟩
    obtain ⟨-, o, ho, hc⟩ := hr Bx e.symm
    rw [hbX] at ho; cases ho; cases hc
  case assign =>
    intro l pre x W K hI hK
    obtain ⟨⟨v, hbox, hrow, -⟩, hbel⟩ := hI
    have hle : w.heap.size ≤ W.heap.size := hbel.size
    have hlt : w.heap.size < W.heap.size := hbox.lt
    obtain ⟨W2, hW2⟩ : ∃ W2, W.alloc (.cells #[.int .u64 x.1, .int .u64 x.2] 68) = W2 := ⟨_, rfl⟩
    have hK' := hK { tmps := #[.slice none 0 0, .func (.func gf) #[] lb, .pointer (some ⟨w.heap.size, 0, none⟩), undef, .slice none 0 0, .pointer (some ⟨W.heap.size, 0, none⟩), .func (.func gf) #[] lb, valP x, undef, undef, undef, undef, undef], defers := [] } W2
      (by rw [← hW2]; exact (KeepsOthers.alloc _ _).from _) (by rw [← hW2]; exact (Below.refl n₀ W).alloc (by omega) _)
      ⟨⟨v, by rw [← hW2]; exact hbox.alloc _, by rw [← hW2]; exact hrow.kept (World.grownBy_alloc W _ Option.none) (by cases v.ownBlock <;> simp), trivial⟩, by rw [← hW2]; exact hbel.trans ((Below.refl w.heap.size W).alloc hle _)⟩
      ⟨W.heap.size, by omega, by rw [← hW2]; exact World.alloc_heap_new W _, rfl⟩
    have HK := Lib.hid hK'
    clear hK hK'
    unfold valP at *
    gi_wp2
    exact HK.out
  case body =>
    rintro l pre x a' W hl ⟨r, hr⟩ ⟨⟨v, hbox, hrow, -⟩, hbel⟩ ⟨Bx, hBx, hbX, rfl⟩ hpre
    have hv := hbox.cell
    have hf := hbox.frozen
    have hx0 : W.cell? ⟨Bx, 0, none⟩ = some (.int .u64 x.1) := by simp [World.cell?, hbX]
    have hx1 : W.cell? ⟨Bx, 1, none⟩ = some (.int .u64 x.2) := by simp [World.cell?, hbX]
    obtain ⟨va, vc, rfl, -, -⟩ := OwnP.form hrow
    have hle : w.heap.size ≤ W.heap.size := hbel.size
    have hpl : pre.length < 1000000 := by omega
    have hnew : ∀ j u, (encP x)[j]? = some u → (W.alloc (.cells #[.int .u64 x.1, .int .u64 x.2] 68)).cell? ((⟨W.heap.size, 0, Option.none⟩ : Addr).add j) = some u := by
      intro j u hu
      rw [addr_add, Nat.zero_add, World.cell?_alloc_new]
      simpa [encP] using hu
    have hFP : Hid (flatP (pre ++ [x]) = flatP pre ++ encP x ∧ (pre ++ [x]).length = pre.length + 1) := Lib.hid ⟨by rw [flatP_append]; simp [flatP], by simp⟩
    gi_wp2_with (gi_at_builtin; refine wpListIn_append_own _ rfl (.tmp 8) (.tmp 10) 22 rfl w.heap.size 68 i0 _ 2 16 Tryz.underlying22 hi hz0 hz1 hz2 rfl (by decide) _ _ _ rfl (hrow.kept (World.grownBy_alloc W _ Option.none) (by cases va <;> simp [Value.ownBlock])) ⟨W.heap.size, 0, Option.none⟩ 1 1 (encP x) rfl rfl hnew (by intro u hu; simp [encP] at hu; rcases hu with rfl | rfl <;> rfl) (by unfold maxLen; omega) (by omega) (by simp; omega) ?_; intro v' w1 hown' hgrow _; obtain ⟨g', cap', rfl⟩ := ownsRow_succ hown'; obtain ⟨hv1, hv2, hr2, hk2, hb2⟩ := hbox.appended (by decide) hrow hle (Nat.le_refl _) hown' hgrow; have hc1 := hv1.cell; have hf1 := hv1.frozen)
    refine ⟨hk2.from _, hb2.mono hn₀, ⟨_, hv2, ?_, trivial⟩, hbel.trans hb2⟩
    rw [hFP.out.1, hFP.out.2]
    exact hr2
  case done =>
    rintro D xs W hD rfl ⟨⟨v, hbox, hrow, -⟩, hbel⟩ hK
    have hv := hbox.cell
    gi_wp2
    refine ⟨by simp, .inl ⟨_, _, rfl, run_takeDeferred hK, ?_⟩⟩
    refine ⟨_, results_tmp rfl _ _ _, v, rfl, ?_, (hbel.trans (belowK_b (w := w) (Nat.le_refl _) W D _ _ (by omega) hK rfl rfl)).mono hn₀⟩
    refine World.ownsRow.kept hrow (grownBy_putObj' W D (.deferred Option.none)) (.inr fun e => ?_)
    rcases hrow.2 with ⟨rfl, -⟩ | ⟨g, cap, cur, rfl, -, hg, -⟩
    · cases e
    · cases e
      rw [hK] at hg; cases hg
  case stop =>
    rintro D c pre W _ _ h _
    exact h.elim
end Go.Proofs.YtemilbemdlpkaaaGreatDoor
