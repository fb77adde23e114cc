/- object: Decode of a blob and of the empty tree. -/
import Derived.Test.YtikacgiccllolaaGreatObjD
import Derived.Test.YtikacgiccllolaaGreatOctF
import Derived.Deep.RegionHeld3
import Derived.Deep.CutBlock
namespace Go.Proofs.YtikacgiccllolaaGreat
open Go.RowKit Go.ChangeMaps Go.MapKept

theorem wordB_len (x : Nat) : (wordB x).length = 8 := by simp [wordB]
theorem wordFrom_wordB (x : Nat) (hx : x < 18446744073709551616) : wordFrom 0 (wordB x) = x := by
  unfold wordB wordFrom
  rw [show List.range 8 = [0, 1, 2, 3, 4, 5, 6, 7] from rfl]
  simp only [List.map_cons, List.map_nil, List.foldl_cons, List.foldl_nil, UInt8.toNat_ofNat']
  omega
theorem word_read (x : Nat) (hx : x < 18446744073709551616) (rest : List UInt8) : (RM.mk (wordB x ++ rest) 0).word = (x, ⟨rest, 0⟩) := by
  have h8 := wordB_len x
  unfold RM.word
  rw [if_pos rfl, if_neg (by simp only [List.length_append]; omega)]
  simp only []
  rw [List.take_append_of_le_length (by omega), List.take_of_length_le (by omega), wordFrom_wordB x hx, List.drop_append_of_le_length (by omega), List.drop_eq_nil_of_le (by omega), List.nil_append]
theorem numB_small (n : Nat) (hn : n < 128) (rest : List UInt8) : numB (uintB n ++ rest) = (n, 1, 0) := by
  rw [uintB_small hn]
  unfold numB
  have h : (UInt8.ofNat n).toNat = n := by simp; omega
  rw [List.cons_append, List.nil_append]
  unfold numFrom
  rw [if_neg (by simp), h, if_pos hn]
  simp; omega
theorem uint_read (n : Nat) (hn : n < 128) (rest : List UInt8) : (RM.mk (uintB n ++ rest) 0).uint = (n, ⟨rest, 0⟩) := by
  unfold RM.uint
  rw [if_pos rfl]
  simp only []
  rw [numB_small n hn, if_pos rfl, uintB_small hn]
  rfl
theorem wordP_any {w : World} {B N x : Nat} {bs rest : List UInt8} (h : RdrAt w B N ⟨bs, 0⟩) (e : bs = wordB x ++ rest) (hx : x < 18446744073709551616) : Calls Tryz.prog 59 #[.pointer (some ⟨B, 0, none⟩)] w fun e w' => e = .returned (.int .u64 x) ∧ RdrAt w' B N ⟨rest, 0⟩ ∧ Kept (· = B) w w' := by
  subst e
  have := word_any h
  rw [word_read x hx] at this
  exact this
theorem uintP_any {w : World} {B N x : Nat} {bs rest : List UInt8} (h : RdrAt w B N ⟨bs, 0⟩) (e : bs = uintB x ++ rest) (hx : x < 128) : Calls Tryz.prog 68 #[.pointer (some ⟨B, 0, none⟩)] w fun e w' => e = .returned (.int .u64 x) ∧ RdrAt w' B N ⟨rest, 0⟩ ∧ Kept (· = B) w w' := by
  subst e
  have := uint_any h
  rw [uint_read x hx] at this
  exact this
theorem textP_any {w : World} {B N : Nat} {bs rest : List UInt8} (h : RdrAt w B N ⟨bs, 0⟩) (e : bs = (0 : UInt8) :: rest) (most : Nat) (hm : most ≤ 1000000) : Calls Tryz.prog 58 #[.pointer (some ⟨B, 0, none⟩), .int .i64 most] w fun e w' => e = .returned (.string { data := #[] }) ∧ RdrAt w' B N ⟨rest, 0⟩ ∧ Kept (· = B) w w' := by
  subst e
  exact text_any h most 0 1 (by have := numB_small 0 (by omega) rest; rwa [uintB_small (by omega)] at this) (by omega) hm (by simp)
theorem stopP_any {w : World} {B N : Nat} (h : RdrAt w B N ⟨[], 0⟩) : Calls Tryz.prog 69 #[.pointer (some ⟨B, 0, none⟩)] w fun e w' => e = .returned (.int .i64 0) ∧ w = w' := stop_any h
theorem errP_any {w : World} {B N : Nat} {bs : List UInt8} (h : RdrAt w B N ⟨bs, 0⟩) : Calls Tryz.prog 60 #[.pointer (some ⟨B, 0, none⟩)] w fun e w' => e = .returned (.int .i64 0) ∧ w = w' := err_any h
theorem leftP_any {w : World} {B N : Nat} {bs : List UInt8} (h : RdrAt w B N ⟨bs, 0⟩) : Calls Tryz.prog 57 #[.pointer (some ⟨B, 0, none⟩)] w fun e w' => e = .returned (.int .i64 bs.length) ∧ w = w' := left_any h

set_option maxRecDepth 100000 in
theorem decode_tree0 (w : World) (v : Value) (h : IsB w v [116, 0]) :
    Calls Tryz.prog 40 #[v] w fun e w' => e = .returned (.tuple #[.iface 106 (.agg #[.slice none 0 0]), .int .i64 0]) ∧ Kept (fun _ => False) w w' := by
  have HRD := Lib.hid (reader_any w v _ h (by simp))
  clear h
  go_enter Tryz.func40, Tryz.ntmps40
  go_wp2_with fail
  refine HRD.out.mono ?_
  rintro e w1 ⟨B, rfl, hB, hr, hk1⟩
  have HB := Lib.hid hB
  have HK1 := Lib.hid hk1
  clear hB hk1
  go_wp2_with fail
  refine (byte_any hr).mono ?_
  rintro e w2 ⟨rfl, hr2, hk2⟩
  obtain ⟨w3, hw3⟩ : ∃ w3, w2.alloc (.cells #[.slice none 0 0] 106) = w3 := ⟨_, rfl⟩
  have hk3 : Kept (fun _ => False) w2 w3 := by rw [← hw3]; exact (Kept.refl _ _).alloc _
  have hb3 : w3.heap[w2.heap.size]? = some (.cells #[.slice none 0 0] 106 (0, 0)) := by rw [← hw3]; exact heap_alloc_new _ _
  have HUI := Lib.hid (uintP_any (x := 0) (rest := []) (hr2.kept hk3 (fun _ f => f.elim)) (by rw [uintB_small (by omega)]; rfl) (by omega))
  clear hr hr2
  go_wp2_with fail
  refine HUI.out.mono ?_
  rintro e w4 ⟨rfl, hr4, hk4⟩
  have hBN : B < w1.heap.size := by obtain ⟨_, _, _, _, h, _⟩ := hr4.at_; exact h
  have e4 := (hk4.block w2.heap.size (Array.getElem?_eq_some_iff.1 hb3).1 (fun e => by have := hk2.size; omega)).trans hb3
  have d4 : w4.cell? ⟨w2.heap.size, 0, none⟩ = some (.slice none 0 0) := by simp [World.cell?, e4]
  have HK := Lib.hid (HK1.out.more ((hk2.trans (Kept.mono hk3 (fun _ _ f => f.elim)) (fun _ _ h => h)).trans hk4 (fun _ _ h => h)) (fun i e => by subst e; exact HB.out))
  have HS := Lib.hid (stopP_any hr4)
  have HCK := Lib.hid (check_tree0 w4)
  clear hb3 hw3 hk3 hk2 hk4 hr4 e4 hBN
  go_wp2_with fail
  go_loopw [7] (fun i wr => i = .int .u64 0 ∧ wr = w4) (fun _ _ => 0)
  case atStart => exact ⟨rfl, rfl⟩
  case round =>
    obtain ⟨rfl, rfl⟩ := hrel
    go_wp2_with fail
    refine HS.out.mono ?_
    rintro e w5 ⟨rfl, rfl⟩
    go_wp2_with fail
    refine HCK.out.mono ?_
    rintro e w5 ⟨rfl, hk5⟩
    go_wp2
    go_ret2
    exact ⟨rfl, HK.out.more hk5 (fun _ f => f.elim)⟩
set_option maxRecDepth 100000 in
theorem decode_blob (w : World) (v : Value) (bs : List UInt8) (h : IsB w v (98 :: bs)) (hl : bs.length ≤ 4096) :
    Calls Tryz.prog 40 #[v] w fun e w' => ∃ u, e = .returned (.tuple #[.iface 66 (.agg #[u]), .int .i64 0]) ∧ FreshB w u bs w' := by
  have HRD := Lib.hid (reader_any w v _ h (by simp; omega))
  clear h
  go_enter Tryz.func40, Tryz.ntmps40
  go_wp2_with fail
  refine HRD.out.mono ?_
  rintro e w1 ⟨B, rfl, hB, hr, hk1⟩
  have HB := Lib.hid hB
  have HK1 := Lib.hid hk1
  clear hB hk1
  go_wp2_with fail
  refine (byte_any hr).mono ?_
  rintro e w2 ⟨rfl, hr2, hk2⟩
  have HR := Lib.hid (raw_any hr2 bs.length (Nat.le_refl _) (by omega))
  have HL := Lib.hid (leftP_any hr2)
  clear hr hr2
  go_wp2_with (first | (go_at_call 57; refine HL.out.mono ?_; rintro e w' ⟨rfl, rfl⟩) | (go_at_call 67; refine HR.out.mono ?_; rintro e w4 ⟨u, w3, rfl, hr3, hk3, hf4⟩; obtain ⟨ua, uc, rfl, -, -⟩ := hf4.own.form))
  rw [List.drop_length] at hr3
  have HS := Lib.hid (stopP_any (hr3.kept hf4.kept (fun _ f => f.elim)))
  rw [List.take_length] at hf4
  have HF := Lib.hid (hf4.behind (HK1.out.more (hk2.trans hk3 (fun _ _ h => h)) (fun i e => by subst e; exact HB.out)))
  have HCK := Lib.hid (check_blob w4 ua bs.length uc hl)
  clear hr3 hf4 hk2 hk3
  refine HS.out.mono ?_
  rintro e w5 ⟨rfl, rfl⟩
  go_wp2_with fail
  refine HCK.out.mono ?_
  rintro e w5 ⟨rfl, hk5⟩
  go_wp2
  go_ret2
  exact ⟨_, rfl, ⟨OwnB.kept HF.out.own fun g hg => hk5.block g (HF.out.own.lt g hg) (fun f => f), HF.out.kept.more hk5 (fun _ f => f.elim), HF.out.new⟩⟩
end Go.Proofs.YtikacgiccllolaaGreat

/- object: Decode of a commit. -/
namespace Go.Proofs.YtikacgiccllolaaGreat
open Go.RowKit Go.ChangeMaps Go.MapKept

theorem OwnI.push {n0 : Nat} {w : World} {v : Value} {l : List Nat} (h : OwnI n0 w v l) (hk0 : n0 ≤ w.heap.size) (a : Addr) (x : Nat) (ha : w.cell? a = some (.int .u64 (x : Int))) (hl : l.length + 1 ≤ 1000000000000) :
    ∃ v' w', (Builtin.append_ #[28, 28] 28 #[v, .slice (some a) 1 1]).run Tryz.prog w = .ok v' w' ∧ OwnI n0 w' v' (l ++ [x]) ∧ Kept (fun k => v.ownBlock = some k) w w' := by
  obtain ⟨i0, hi, hz0, hz1, hz2⟩ := info_parts Tryz.info37
  obtain ⟨v', w', hrun, ho2, hg2, -, hb2⟩ := run_append_own_at (P := Tryz.prog) w n0 28 28 37 i0 _ 1 8 Tryz.underlying28 hi hz0 hz1 hz2 rfl (by decide) _ _ _ h a 1 1 [.int .u64 (x : Int)] rfl (by
    intro j u hu
    match j, hu with
    | 0, hu => cases hu; exact ha
    | j + 1, hu => simp at hu) (by intro u hu; simp at hu; subst hu; rfl) (by unfold maxLen; omega) (by omega) hk0
  refine ⟨v', w', hrun, ?_, Kept.grown (F := fun k => v.ownBlock = some k) (Kept.refl _ _) hg2 (fun k hk _ => hk)⟩
  have : idsV (l ++ [x]) = idsV l ++ [.int .u64 (x : Int)] := by simp [idsV]
  unfold OwnI
  rw [this, List.length_append]
  exact ho2
theorem OwnI.keptF {F : Nat → Prop} {n0 : Nat} {w w' : World} {v : Value} {l : List Nat} (h : OwnI n0 w v l) (hk : Kept F w w') (hF : ∀ g, v.ownBlock = some g → ¬ F g) : OwnI n0 w' v l := by
  rcases h with ⟨h1, h2⟩
  refine ⟨h1, ?_⟩
  rcases h2 with h2 | ⟨g, cap, cur, rfl, hb, hg, hr⟩
  · exact .inl h2
  · exact .inr ⟨g, cap, cur, rfl, hb, (hk.block g (Array.getElem?_eq_some_iff.1 hg).1 (hF g rfl)).trans hg, hr⟩
theorem OwnI.base {n0 : Nat} {w : World} {v : Value} {l : List Nat} (h : OwnI n0 w v l) {g : Nat} (e : v.ownBlock = some g) : n0 ≤ g ∧ g < w.heap.size := World.ownsRow.lt h g e
theorem OwnI.low {n0 n1 : Nat} {w : World} {v : Value} {l : List Nat} (h : OwnI n0 w v l) (hn : n1 ≤ n0) : OwnI n1 w v l := by
  rcases h with ⟨h1, h2⟩
  refine ⟨h1, ?_⟩
  rcases h2 with h2 | ⟨g, cap, cur, rfl, hb, hr⟩
  · exact .inl h2
  · exact .inr ⟨g, cap, cur, rfl, by omega, hr⟩
theorem OwnI.none (n0 : Nat) (w : World) : OwnI n0 w (.slice none 0 0) [] := World.ownsRow_nil _ _ _ _
/-- A commit that is being read, at block C. -/
def ComAt (w : World) (C : Nat) (tree : Nat) (v : Value) (date : Int) : Prop := w.heap[C]? = some (.cells #[.int .u64 tree, v, .string { data := #[] }, .int .i64 date, .string { data := #[] }] 61 (0, 0))
theorem ComAt.cells {w : World} {C tree : Nat} {v : Value} {date : Int} (h : ComAt w C tree v date) : w.cell? ⟨C, 0, none⟩ = some (.int .u64 tree) ∧ w.cell? ⟨C, 1, none⟩ = some v ∧ w.cell? ⟨C, 2, none⟩ = some (.string { data := #[] }) ∧ w.cell? ⟨C, 3, none⟩ = some (.int .i64 date) ∧ w.cell? ⟨C, 4, none⟩ = some (.string { data := #[] }) ∧ (∀ i, w.frozen? ⟨C, i, none⟩ = false) := by
  unfold ComAt at h
  exact ⟨by simp [World.cell?, h], by simp [World.cell?, h], by simp [World.cell?, h], by simp [World.cell?, h], by simp [World.cell?, h], fun i => by simp [World.frozen?, h]⟩
theorem wordsB_take (ps : List Nat) (k : Nat) (hk : k < ps.length) : wordsB (ps.drop k) = wordB ps[k] ++ wordsB (ps.drop (k + 1)) := by
  unfold wordsB
  rw [List.drop_eq_getElem_cons hk, List.flatMap_cons]

theorem OwnI.form' {n0 : Nat} {w : World} {v : Value} {l : List Nat} {n : Nat} (h : OwnI n0 w v l) (hn : l.length = n) : ∃ a c, v = .slice a n c := by
  obtain ⟨a, c, e, -, -⟩ := h.form
  exact ⟨a, c, by rw [← hn]; exact e⟩
theorem ComAt.put2 {w : World} {C tree : Nat} {v : Value} {date : Int} (h : ComAt w C tree v date) : ComAt (w.setCell ⟨C, 2, none⟩ (.string { data := #[] })) C tree v date := by unfold ComAt; rw [heap_setCell_row h _]; rfl
theorem ComAt.put3 {w : World} {C tree : Nat} {v : Value} {date : Int} (h : ComAt w C tree v date) (d : Int) : ComAt (w.setCell ⟨C, 3, none⟩ (.int .i64 d)) C tree v d := by unfold ComAt; rw [heap_setCell_row h _]; rfl
theorem ComAt.put4 {w : World} {C tree : Nat} {v : Value} {date : Int} (h : ComAt w C tree v date) : ComAt (w.setCell ⟨C, 4, none⟩ (.string { data := #[] })) C tree v date := by unfold ComAt; rw [heap_setCell_row h _]; rfl
theorem ComAt.kept {w w' : World} {F : Nat → Prop} {C tree : Nat} {v : Value} {date : Int} (h : ComAt w C tree v date) (hk : Kept F w w') (hF : ¬ F C) : ComAt w' C tree v date := (hk.block C (Array.getElem?_eq_some_iff.1 h).1 hF).trans h
theorem keptCell (w : World) (C i : Nat) (v : Value) : Kept (· = C) w (w.setCell ⟨C, i, none⟩ v) := (Kept.refl (· = C) w).setCell (p := ⟨C, i, none⟩) (fun _ => rfl) _
/-- One parent more. -/
theorem dec_step {N B C tree k x : Nat} {wr w5 : World} {va : Option Addr} {vc : Nat} {l : List Nat} {rest : List UInt8} (hlk : l.length = k) (hk8 : k ≤ 8) (hbc : B < N ∧ N ≤ C)
    (hc : ComAt wr C tree (.slice va k vc) 0) (ho : OwnI (C + 1) wr (.slice va k vc) l) (hs : C + 1 ≤ wr.heap.size) (hr : RdrAt w5 B N ⟨rest, 0⟩) (hk : Kept (· = B) wr w5) :
    ∃ ua uc w6, (Builtin.append_ #[28, 28] 28 #[.slice va k vc, .slice (some ⟨w5.heap.size, 0, none⟩) 1 1]).run Tryz.prog (w5.alloc (.cells #[.int .u64 x] 37)) = .ok (.slice ua (k + 1) uc) w6 ∧
      w6.cell? ⟨C, 1, none⟩ = some (.slice va k vc) ∧ w6.frozen? ⟨C, 1, none⟩ = false ∧
      ComAt (w6.setCell ⟨C, 1, none⟩ (.slice ua (k + 1) uc)) C tree (.slice ua (k + 1) uc) 0 ∧ OwnI (C + 1) (w6.setCell ⟨C, 1, none⟩ (.slice ua (k + 1) uc)) (.slice ua (k + 1) uc) (l ++ [x]) ∧
      RdrAt (w6.setCell ⟨C, 1, none⟩ (.slice ua (k + 1) uc)) B N ⟨rest, 0⟩ ∧ Kept (fun i => B ≤ i) wr (w6.setCell ⟨C, 1, none⟩ (.slice ua (k + 1) uc)) := by
  have hkA : Kept (fun _ => False) w5 (w5.alloc (.cells #[.int .u64 x] 37)) := (Kept.refl _ _).alloc _
  have hk1 := hk.trans (Kept.mono hkA (fun _ _ f => f.elim) : Kept (· = B) _ _) (fun _ _ h => h)
  have hoA := ho.keptF hk1 (fun g e e2 => by have := (ho.base e).1; omega)
  obtain ⟨v', w6, hrun, ho6, hk6⟩ := hoA.push (by have := hk1.size; omega) ⟨w5.heap.size, 0, none⟩ x (by rw [World.cell?_alloc_new]; rfl) (by omega)
  obtain ⟨ua, uc, rfl⟩ := ho6.form' (n := k + 1) (by simp [hlk])
  have hk26 : Kept (fun i => i = B ∨ C + 1 ≤ i) wr w6 := (Kept.mono hk1 (fun _ _ h => .inl h)).trans (Kept.mono hk6 (fun i _ e => .inr ((hoA.base e).1))) (fun _ _ h => h)
  have hc6 : ComAt w6 C tree (.slice va k vc) 0 := (hk26.block C (by omega) (fun e => by omega)).trans hc
  have hkS : Kept (· = C) w6 (w6.setCell ⟨C, 1, none⟩ (.slice ua (k + 1) uc)) := (Kept.refl (· = C) w6).setCell (p := ⟨C, 1, none⟩) (fun _ => rfl) _
  refine ⟨ua, uc, w6, hrun, hc6.cells.2.1, hc6.cells.2.2.2.2.2 1, ?_, ho6.keptF hkS (fun g e e2 => by have := (ho6.base e).1; omega), ?_, ?_⟩
  · unfold ComAt
    rw [heap_setCell_row hc6 _]; rfl
  · exact ((hr.kept hkA (fun _ f => f.elim)).kept hk6 (fun i e => by have := (hoA.base e).1; omega)).kept hkS (fun i e => by omega)
  · exact (Kept.mono hk26 (fun i _ h => by omega)).trans (Kept.mono hkS (fun i _ h => by omega)) (fun _ _ h => h)

set_option maxRecDepth 100000 in
set_option maxHeartbeats 1000000 in
theorem decode_commit (w : World) (v : Value) (tree : Nat) (ps : List Nat) (date : Int) (h : IsB w v (encC tree ps date)) (ht : tree ≠ 0) (ht64 : tree < 18446744073709551616) (hl : ps.length ≤ 8) (h0 : 0 ∉ ps) (hps : ∀ p ∈ ps, p < 18446744073709551616) (hd1 : -9223372036854775808 ≤ date) (hd2 : date < 9223372036854775808) :
    Calls Tryz.prog 40 #[v] w fun e w' => ∃ u, e = .returned (.tuple #[.iface 61 (comV tree u date), .int .i64 0]) ∧ OwnI w.heap.size w' u ps ∧ Kept (fun _ => False) w w' := by
  have he : encC tree ps date = 99 :: (wordB tree ++ (uintB ps.length ++ (wordsB ps ++ (0 :: (wordB (date64 date) ++ [0]))))) := by unfold encC; simp
  rw [he] at h
  have hcd : IntKind.i64.wrap ((date64 date : Nat) : Int) = date := by rw [IntKind.wrap_i64]; unfold date64; omega
  have hdl := date64_lt date
  obtain ⟨D1, hD1⟩ : ∃ D1, date64 date = D1 := ⟨_, rfl⟩
  rw [hD1] at h hcd hdl
  have HRD := Lib.hid (reader_any w v _ h (by
    have := uintB_len ps.length 3 (by omega) (by omega)
    simp [wordB_len, wordsB_length]; omega))
  have HPS := Lib.hid hps
  have HHH := Lib.hid (And.intro ht (And.intro hl h0))
  have HDL := Lib.hid hdl
  clear h he hD1 hps hd1 hd2 hdl
  go_enter Tryz.func40, Tryz.ntmps40
  go_wp2_with fail
  refine HRD.out.mono ?_
  rintro e w1 ⟨B, rfl, hB, hr, hk1⟩
  have HB := Lib.hid hB
  have HK1 := Lib.hid hk1
  clear hB hk1
  go_wp2_with fail
  refine (byte_any hr).mono ?_
  rintro e w2 ⟨rfl, hr2, hk2⟩
  go_wp2_with fail
  refine (wordP_any hr2 rfl ht64).mono ?_
  rintro e w3 ⟨rfl, hr3, hk3⟩
  have hBN : B < w1.heap.size := by obtain ⟨_, _, _, _, h, _⟩ := hr3.at_; exact h
  have hC3 : w1.heap.size ≤ w3.heap.size := Nat.le_trans hk2.size hk3.size
  have HK3' := Lib.hid (hk2.trans hk3 (fun _ _ h => h))
  clear hr hr2 hk2 hk3
  have HR3 := Lib.hid hr3
  clear hr3
  go_wp2_with fail
  refine callsAt ?_
  intro W hW
  have hkW : Kept (fun _ => False) w3 W := by rw [hW]; exact (Kept.refl _ _).alloc _
  have hcW : ComAt W w3.heap.size tree (.slice none 0 0) 0 := by rw [hW]; exact heap_alloc_new _ _
  have HUI := Lib.hid (uintP_any (HR3.out.kept hkW (fun _ f => f.elim)) rfl (by have := HHH.out.2.1; omega))
  have HK3 := Lib.hid (HK3'.out.trans (Kept.mono hkW (fun _ _ f => f.elim)) (fun _ _ h => h))
  have HSZ : Hid (W.heap.size = w3.heap.size + 1) := Lib.hid (by rw [hW]; simp)
  refine HUI.out.mono ?_
  rintro e w4 ⟨rfl, hr4, hk4⟩
  have hc4 : ComAt w4 w3.heap.size tree (.slice none 0 0) 0 := (hk4.block w3.heap.size (Array.getElem?_eq_some_iff.1 hcW).1 (fun e => by omega)).trans hcW
  have HI0 : Hid (RdrAt w4 B w1.heap.size ⟨wordsB (ps.drop 0) ++ 0 :: (wordB D1 ++ [0]), 0⟩) := Lib.hid hr4
  have HSZ4 : Hid (w3.heap.size + 1 ≤ w4.heap.size) := Lib.hid (by have := hk4.size; have := HSZ.out; omega)
  have HC4 := Lib.hid hc4
  have HK4 := Lib.hid (HK3.out.trans hk4 (fun _ _ h => h))
  have HBC : Hid (B < w1.heap.size ∧ w1.heap.size ≤ w3.heap.size) := Lib.hid ⟨hBN, hC3⟩
  generalize w3.heap.size = C at *
  clear hW hkW hcW hr4 hk4 hc4 hBN hC3
  have HKB : Hid (Kept (fun i => B ≤ i) w1 w4) := Lib.hid (Kept.mono HK4.out (fun _ _ h => by omega))
  go_wp2_with fail
  go_loopw [10] (fun i wr => ∃ k m va vc, k + m = ps.length ∧ i = .int .u64 (m : Nat) ∧ Hid (ComAt wr C tree (.slice va k vc) 0) ∧ Hid (OwnI (C + 1) wr (.slice va k vc) (ps.take k)) ∧ Hid (RdrAt wr B w1.heap.size ⟨wordsB (ps.drop k) ++ 0 :: (wordB D1 ++ [0]), 0⟩) ∧ Hid (Kept (fun i => B ≤ i) w1 wr) ∧ Hid (C + 1 ≤ wr.heap.size)) (fun i _ => (intOf i).toNat)
  case atStart => exact ⟨0, ps.length, none, 0, by omega, rfl, HC4, Lib.hid (OwnI.none _ _), HI0, HKB, HSZ4⟩
  case round =>
    obtain ⟨k, m, va, vc, hkm, rfl, HC, HO, HR, HK, HZ⟩ := hrel
    cases m with
    | zero =>
      obtain rfl : k = ps.length := by omega
      have hm0 : ¬ (0 : Int) < ((0 : Nat) : Int) := by omega
      have HRr : RdrAt wr B w1.heap.size ⟨0 :: (wordB D1 ++ [0]), 0⟩ := by have := HR.out; rw [List.drop_length] at this; exact this
      have hOr := HO.out
      rw [List.take_length] at hOr
      have hN := HBC.out
      have hC1 := HC.out
      have ⟨p0, p1, p2, p3, p4, pf⟩ := hC1.cells
      have f2 := pf 2
      have hsz1 := HZ.out
      have HT1 := Lib.hid (textP_any HRr rfl 64 (by omega))
      clear HC HO HR pf HRr
      go_wp2_with fail
      refine HT1.out.mono ?_
      rintro e w5 ⟨rfl, hr5, hk5⟩
      have hC5 := hC1.kept hk5 (fun e => by omega)
      have d5 := hC5.cells.2.2.1
      have f5 := hC5.cells.2.2.2.2.2 2
      obtain ⟨w6, hw6⟩ : ∃ w6, w5.setCell ⟨C, 2, none⟩ (.string { data := #[] }) = w6 := ⟨_, rfl⟩
      have hC6 := hC5.put2
      have hk6 := keptCell w5 C 2 (.string { data := #[] })
      rw [hw6] at hC6 hk6
      have HT2 := Lib.hid (wordP_any (hr5.kept hk6 (fun i e => by omega)) rfl HDL.out)
      have hkA := (Kept.mono hk5 (fun i _ e => Or.inl e) : Kept (fun i => i = B ∨ i = C) wr w5).trans (Kept.mono hk6 (fun i _ e => Or.inr e)) (fun _ _ h => h)
      clear hr5 hk5 hk6 hC5 hC1 p0 p1 p2 p3 p4 f2
      go_wp2_with fail
      refine HT2.out.mono ?_
      rintro e w7 ⟨rfl, hr7, hk7⟩
      have hC7 := hC6.kept hk7 (fun e => by omega)
      have d7 := hC7.cells.2.2.2.1
      have f7 := hC7.cells.2.2.2.2.2 3
      obtain ⟨w8, hw8⟩ : ∃ w8, w7.setCell ⟨C, 3, none⟩ (.int .i64 date) = w8 := ⟨_, rfl⟩
      have hC8 := hC7.put3 date
      have hk8 := keptCell w7 C 3 (.int .i64 date)
      rw [hw8] at hC8 hk8
      have HT3 := Lib.hid (textP_any (hr7.kept hk8 (fun i e => by omega)) rfl 1024 (by omega))
      have hkB := (hkA.trans (Kept.mono hk7 (fun i _ e => Or.inl e)) (fun _ _ h => h)).trans (Kept.mono hk8 (fun i _ e => Or.inr e)) (fun _ _ h => h)
      clear hr7 hk7 hk8 hC7 hC6 hkA d5 f5 hw6
      go_wp2_with fail
      refine HT3.out.mono ?_
      rintro e w9 ⟨rfl, hr9, hk9⟩
      have hC9 := hC8.kept hk9 (fun e => by omega)
      have d9 := hC9.cells.2.2.2.2.1
      have f9 := hC9.cells.2.2.2.2.2 4
      obtain ⟨w10, hw10⟩ : ∃ w10, w9.setCell ⟨C, 4, none⟩ (.string { data := #[] }) = w10 := ⟨_, rfl⟩
      have hC10 := hC9.put4
      have hk10 := keptCell w9 C 4 (.string { data := #[] })
      rw [hw10] at hC10 hk10
      have HS := Lib.hid (stopP_any (hr9.kept hk10 (fun i e => by omega)))
      have hkC := (hkB.trans (Kept.mono hk9 (fun i _ e => Or.inl e)) (fun _ _ h => h)).trans (Kept.mono hk10 (fun i _ e => Or.inr e)) (fun _ _ h => h)
      have ho10 := hOr.keptF hkC (fun g e e2 => by have := (hOr.base e).1; omega)
      have HCK := Lib.hid (check_commit w10 tree va vc ps date (ho10.isI HPS.out) HHH.out.1 HHH.out.2.1 HHH.out.2.2)
      have HOF := Lib.hid ho10
      have HKF := Lib.hid (HK1.out.more (HK.out.trans (Kept.mono hkC (fun i _ e => by omega)) (fun _ _ h => h)) (fun i e => Nat.le_trans HB.out e))
      have ⟨s0, s1, s2, s3, s4, sf⟩ := hC10.cells
      clear hr9 hk9 hk10 hC9 hC8 hkB d7 f7 hw8 hkC ho10 hOr hC10 sf
      go_wp2_with fail
      refine HS.out.mono ?_
      rintro e w11 ⟨rfl, rfl⟩
      go_wp2_with fail
      refine HCK.out.mono ?_
      rintro e w12 ⟨rfl, hk12⟩
      go_wp2
      go_ret2
      exact ⟨_, rfl, (HOF.out.low (by have := HB.out; omega)).keptF hk12 (fun _ _ f => f), HKF.out.more hk12 (fun _ f => f.elim)⟩
    | succ m =>
      have HKM := Lib.hid hkm
      have hm0 : (0 : Int) < ((m + 1 : Nat) : Int) := by omega
      have hm1 : ((m + 1 : Nat) : Int) - 1 = (m : Int) := by omega
      have hmw : IntKind.u64.wrap (m : Int) = (m : Int) := by rw [IntKind.wrap_u64]; omega
      have HM1 : Hid (m < m + 1) := Lib.hid (by omega)
      generalize m + 1 = m1 at *
      have HE := Lib.hid (errP_any HR.out)
      clear hkm
      go_wp2_with fail
      refine HE.out.mono ?_
      rintro e w5 ⟨rfl, rfl⟩
      obtain ⟨hx0, hxm⟩ : k < ps.length ∧ True := ⟨by have := HKM.out; omega, trivial⟩
      have HTK : Hid (ps.take (k + 1) = ps.take k ++ [ps[k]]) := Lib.hid (List.take_succ_eq_append_getElem hx0)
      have HDK : Hid (wordsB (ps.drop k) ++ 0 :: (wordB D1 ++ [0]) = wordB ps[k] ++ (wordsB (ps.drop (k + 1)) ++ 0 :: (wordB D1 ++ [0]))) := Lib.hid (by rw [wordsB_take ps k hx0, List.append_assoc])
      have hx64 := HPS.out ps[k] (List.getElem_mem hx0)
      obtain ⟨x, hx⟩ : ∃ x, ps[k] = x := ⟨_, rfl⟩
      rw [hx] at HTK HDK hx64
      have hkd : Kept (fun _ => False) wr wr.drew := (Kept.refl _ _).drew
      have HW := Lib.hid (wordP_any (HR.out.kept hkd (fun _ f => f.elim)) HDK.out hx64)
      have HLK : Hid ((ps.take k).length = k) := Lib.hid (by rw [List.length_take]; omega)
      have HST := Lib.hid (fun w5 (hr : RdrAt w5 B w1.heap.size ⟨wordsB (ps.drop (k + 1)) ++ 0 :: (wordB D1 ++ [0]), 0⟩) (hk : Kept (· = B) wr.drew w5) => dec_step (x := x) HLK.out (by have := HHH.out.2.1; omega) HBC.out (HC.out.kept hkd (fun f => f)) (HO.out.keptF hkd (fun _ _ f => f)) (Nat.le_trans HZ.out hkd.size) hr hk)
      have HKd := Lib.hid (HK.out.trans (Kept.mono hkd (fun _ _ f => f.elim)) (fun _ _ h => h))
      have p1 : wr.drew.cell? ⟨C, 1, none⟩ = some (.slice va k vc) := HC.out.cells.2.1
      have hCB := HBC.out
      clear hx hx64 hx0 HC HO HR hkd
      go_upto_block 5 with fail
      go_cut [] from 64 to 79 (fun wx => ∃ ua uc, ComAt wx C tree (.slice ua (k + 1) uc) 0 ∧ OwnI (C + 1) wx (.slice ua (k + 1) uc) (ps.take k ++ [x]) ∧ RdrAt wx B w1.heap.size ⟨wordsB (ps.drop (k + 1)) ++ 0 :: (wordB D1 ++ [0]), 0⟩ ∧ Kept (fun i => B ≤ i) wr.drew wx)
      case first =>
        go_wp2_with fail
        go_region_law (first | (go_simp; go_at_call 59; refine HW.out.mono ?_; rintro e w5 ⟨rfl, hr5, hk5⟩; have p5 := hk5.cell p1 (fun e => by simp only at e; omega); have p6 := ((Kept.refl (fun _ => False) w5).alloc (.cells #[.int .u64 x] 37)).cell p5 (fun f => f); obtain ⟨ua, uc, w6, hrun, q1, q2, q3⟩ := HST.out w5 hr5 hk5; have HQ := Lib.hid q3; clear hr5 hk5 q3) | (refine step_append_run rfl (.tmp 74) (.tmp 77) #[28, 28] rfl _ _ _ _ rfl rfl hrun ?_))
        all_goals
          go_wp2_with fail
          go_meet
          case rel => exact ⟨_, _, HQ.out⟩
      case rest =>
        obtain ⟨ua, uc, h1, h2, h3, h4⟩ := hcut
        have HQ := Lib.hid (And.intro h1 (And.intro h2 (And.intro h3 h4)))
        clear h1 h2 h3 h4 HST HW p1
        go_wp2_with fail
        go_roundw
        case rel =>
          obtain ⟨h1, h2, h3, h4⟩ := HQ.out
          exact ⟨k + 1, m, ua, uc, by have := HKM.out; omega, rfl, Lib.hid h1, Lib.hid (by rw [HTK.out]; exact h2), Lib.hid h3, Lib.hid (HKd.out.trans h4 (fun _ _ h => h)), Lib.hid (by have := h4.size; have := HZ.out; have h9 : wr.drew.heap.size = wr.heap.size := rfl; omega)⟩
        case measure => have := HM1.out; simp [intOf]; omega
end Go.Proofs.YtikacgiccllolaaGreat
