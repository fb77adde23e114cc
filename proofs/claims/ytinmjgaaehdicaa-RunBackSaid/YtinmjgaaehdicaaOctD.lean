/- octet: the reader. -/
import Derived.Test.YtinmjgaaehdicaaOctC
namespace Go.Proofs.Ytinmjgaaehdicaa
open Go.RowKit Go.ChangeMaps Go.MapKept

/-- A reader, as plain data. -/
structure RM where
  bs : List UInt8
  err : Int

/-- A reader at block B. -/
structure RdrAt (w : World) (B N : Nat) (r : RM) : Prop where
  at_ : ∃ a c, w.heap[B]? = some (.cells #[.bool true, .slice a r.bs.length c, .int .i64 r.err] 137 (0, 0)) ∧ IsB w (.slice a r.bs.length c) r.bs ∧ B < N ∧ (r.bs ≠ [] → ∀ g, (Value.slice a r.bs.length c).ownBlock = some g → g ≠ B ∧ g < N)

def wordFrom (x : Nat) (l : List UInt8) : Nat := l.foldl (fun x c => x * 256 % 18446744073709551616 + c.toNat) x
def RM.word (r : RM) : Nat × RM := if r.err = 0 then (if r.bs.length < 8 then (0, { r with err := 110 }) else (wordFrom 0 (r.bs.take 8), { r with bs := r.bs.drop 8 })) else (0, r)
def RM.uint (r : RM) : Nat × RM := if r.err = 0 then (if (numB r.bs).2.2 = 0 then ((numB r.bs).1, { r with bs := r.bs.drop (numB r.bs).2.1 }) else (0, { r with err := (numB r.bs).2.2 })) else (0, r)
def RM.stop (r : RM) : Int := if r.err = 0 then (if r.bs = [] then 0 else 111) else r.err

theorem RdrAt.cells {w : World} {B N : Nat} {r : RM} (h : RdrAt w B N r) : ∃ a c, w.cell? ⟨B, 0, none⟩ = some (.bool true) ∧ w.cell? ⟨B, 1, none⟩ = some (.slice a r.bs.length c) ∧ w.cell? ⟨B, 2, none⟩ = some (.int .i64 r.err) ∧
    (∀ i, w.frozen? ⟨B, i, none⟩ = false) ∧ IsB w (.slice a r.bs.length c) r.bs ∧ w.heap[B]? = some (.cells #[.bool true, .slice a r.bs.length c, .int .i64 r.err] 137 (0, 0)) ∧ B < N ∧ (r.bs ≠ [] → ∀ g, (Value.slice a r.bs.length c).ownBlock = some g → g ≠ B ∧ g < N) := by
  obtain ⟨a, c, hc, hB, hN, hn⟩ := h.at_
  exact ⟨a, c, by simp [World.cell?, hc], by simp [World.cell?, hc], by simp [World.cell?, hc], fun i => by simp [World.frozen?, hc], hB, hc, hN, hn⟩

set_option maxRecDepth 100000 in
theorem reader_any (w : World) (v : Value) (bs : List UInt8) (h : IsB w v bs) (hlen : bs.length ≤ 100000000000000) :
    Calls Try.prog 81 #[v] w fun e w' => ∃ B, e = .returned (.pointer (some ⟨B, 0, none⟩)) ∧ w.heap.size ≤ B ∧ RdrAt w' B w'.heap.size ⟨bs, 0⟩ ∧ Kept (fun _ => False) w w' := by
  go_enter Try.func81, Try.ntmps81
  go_wp2_with fail
  refine (clone_any w v bs h (by omega)).mono ?_
  rintro e w1 ⟨v1, rfl, hf, -⟩
  have hk1 := hf.kept
  have hB := hf.own.isB
  obtain ⟨a, c, rfl, -, -⟩ := hf.own.form
  go_wp2
  go_ret
  refine ⟨_, rfl, hk1.size, ⟨a, c, heap_alloc_new _ _, hB.keptF ((Kept.refl (fun _ => False) _).alloc _) (fun _ _ h => h), by simp, ?_⟩, hk1.alloc _⟩
  intro hne g hg
  have := hB.block_lt hne g hg
  simp; omega
theorem left_any {w : World} {B N : Nat} {r : RM} (h : RdrAt w B N r) : Calls Try.prog 83 #[.pointer (some ⟨B, 0, none⟩)] w fun e w' => e = .returned (.int .i64 r.bs.length) ∧ w = w' := by
  obtain ⟨a, c, c0, c1, c2, -, hB, -, -, -⟩ := h.cells
  go_enter Try.func83, Try.ntmps83
  go_wp2
  go_ret
  exact ⟨rfl, rfl⟩
theorem stop_any {w : World} {B N : Nat} {r : RM} (h : RdrAt w B N r) : Calls Try.prog 85 #[.pointer (some ⟨B, 0, none⟩)] w fun e w' => e = .returned (.int .i64 r.stop) ∧ w = w' := by
  obtain ⟨a, c, c0, c1, c2, -, hB, -, -, -⟩ := h.cells
  unfold RM.stop
  by_cases he : r.err = 0
  · have he' : (r.err != 0) = false := by simp [he]
    rw [if_pos he]
    by_cases hb : r.bs = []
    · rw [if_pos hb]
      have hl : ¬ (0 : Int) < (r.bs.length : Int) := by rw [hb]; simp
      clear he hb
      go_enter Try.func85, Try.ntmps85
      go_wp2
      go_ret
      exact ⟨rfl, rfl⟩
    · rw [if_neg hb]
      have hl : (0 : Int) < (r.bs.length : Int) := by have := List.length_pos_iff.2 hb; omega
      clear he
      go_enter Try.func85, Try.ntmps85
      go_wp2
      go_ret
      exact ⟨rfl, rfl⟩
  · have he' : (r.err != 0) = true := by simp [he]
    rw [if_neg he]
    go_enter Try.func85, Try.ntmps85
    go_wp2
    go_ret
    exact ⟨rfl, rfl⟩
theorem ready_any {w : World} {B N : Nat} {r : RM} (h : RdrAt w B N r) : Calls Try.prog 95 #[.pointer (some ⟨B, 0, none⟩)] w fun e w' => e = .returned (.bool (r.err == 0)) ∧ w = w' := by
  obtain ⟨a, c, c0, c1, c2, -, hB, -, -, -⟩ := h.cells
  go_enter Try.func95, Try.ntmps95
  go_wp2
  go_ret
  exact ⟨rfl, rfl⟩
theorem refuse_any {w : World} {B N : Nat} {r : RM} (h : RdrAt w B N r) (e : Int) : Calls Try.prog 97 #[.pointer (some ⟨B, 0, none⟩), .int .i64 e] w fun en w' => en = .returned (.tuple #[]) ∧ RdrAt w' B N { r with err := e } ∧ Kept (· = B) w w' := by
  obtain ⟨a, c, c0, c1, c2, hfz, hB, hc, hN, hn⟩ := h.cells
  have f2 := hfz 2
  go_enter Try.func97, Try.ntmps97
  go_wp2
  go_end0
  have hk : Kept (· = B) w (w.setCell ⟨B, 2, none⟩ (.int .i64 e)) := (Kept.refl (· = B) w).setCell (p := ⟨B, 2, none⟩) (fun _ => rfl) _
  refine ⟨rfl, ⟨a, c, ?_, hB.keptS hk (fun hne g hg => (hn hne g hg).1), hN, hn⟩, hk⟩
  rw [heap_setCell_row hc _]; rfl
theorem IsB.recap {w : World} {a : Option Addr} {n c : Nat} {bs : List UInt8} (h : IsB w (.slice a n c) bs) : IsB w (.slice a n n) bs := by
  obtain ⟨a', c', hv, h1, h2, h3⟩ := h
  cases hv
  exact ⟨a, _, rfl, Nat.le_refl _, Nat.le_trans h1 h2, h3⟩
theorem take_any {w : World} {B N : Nat} {r : RM} (h : RdrAt w B N r) (n : Nat) (hnl : n ≤ r.bs.length) : Calls Try.prog 98 #[.pointer (some ⟨B, 0, none⟩), .int .i64 n] w fun en w' => ∃ a, en = .returned (.slice a n n) ∧ IsB w' (.slice a n n) (r.bs.take n) ∧ RdrAt w' B N { r with bs := r.bs.drop n } ∧ Kept (· = B) w w' := by
  obtain ⟨a, c, c0, c1, c2, hfz, hB, hc, hN, hn⟩ := h.cells
  have f1 := hfz 1
  have hnc : n ≤ c := by obtain ⟨_, _, e, h1, _⟩ := id hB; cases e; omega
  obtain ⟨a2, hsl, hd, hob, ha2⟩ := bytes_low hB hnl
  clear ha2
  go_enter Try.func98, Try.ntmps98
  go_wp2
  go_ret
  have hk : Kept (· = B) w (w.setCell ⟨B, 1, none⟩ (.slice a2 (r.bs.length - n) (c - n))) := (Kept.refl (· = B) w).setCell (p := ⟨B, 1, none⟩) (fun _ => rfl) _
  have hl : (r.bs.drop n).length = r.bs.length - n := List.length_drop
  have hlt : (r.bs.take n).length = n := by rw [List.length_take]; omega
  have hT := (hB.take hnl).recap
  have hne1 : r.bs.take n ≠ [] → r.bs ≠ [] := fun h e => h (by rw [e]; simp)
  have hne2 : r.bs.drop n ≠ [] → r.bs ≠ [] := fun h e => h (by rw [e]; simp)
  refine ⟨a, rfl, hT.keptS hk (fun hne g hg => (hn (hne1 hne) g (by rw [ob_same a r.bs.length c n n]; exact hg)).1), ⟨a2, c - n, ?_, ?_, hN, ?_⟩, hk⟩
  · show _ = some (Obj.cells #[.bool true, .slice a2 (r.bs.drop n).length (c - n), .int .i64 r.err] 137 (0, 0))
    rw [heap_setCell_row hc _, hl]; rfl
  · show IsB _ (.slice a2 (r.bs.drop n).length (c - n)) (r.bs.drop n)
    rw [hl]
    exact hd.keptS hk (fun hne g hg => (hn (hne2 hne) g (hob g hg)).1)
  · intro hne g hg
    refine hn (hne2 hne) g (hob g ?_)
    rw [← hl]; exact hg

/-- What is done at or beyond N leaves a reader as it is. -/
theorem RdrAt.kept {w w' : World} {B N : Nat} {r : RM} {G : Nat → Prop} (h : RdrAt w B N r) (hk : Kept G w w') (hG : ∀ k, G k → N ≤ k) : RdrAt w' B N r := by
  obtain ⟨a, c, hc, hB, hN, hn⟩ := h.at_
  refine ⟨a, c, (hk.block B (Array.getElem?_eq_some_iff.1 hc).1 (fun hg => by have := hG B hg; omega)).trans hc, hB.keptS hk (fun hne g hg hgg => ?_), hN, hn⟩
  have h1 := (hn hne g hg).2
  have h2 := hG g hgg
  omega
theorem RdrAt.mono {w : World} {B N N' : Nat} {r : RM} (h : RdrAt w B N r) (hN : N ≤ N') : RdrAt w B N' r := by
  obtain ⟨a, c, hc, hB, h1, hn⟩ := h.at_
  exact ⟨a, c, hc, hB, by omega, fun hne g hg => ⟨(hn hne g hg).1, by have := (hn hne g hg).2; omega⟩⟩
end Go.Proofs.Ytinmjgaaehdicaa
