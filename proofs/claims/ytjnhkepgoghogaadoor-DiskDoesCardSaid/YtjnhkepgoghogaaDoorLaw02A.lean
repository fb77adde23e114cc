/- espalierlaw02.wakes. -/
import Derived.Test.YtjnhkepgoghogaaDoorDiskE
import Derived.Test.YtjnhkepgoghogaaDoorEqual
namespace Go.Proofs.YtjnhkepgoghogaaDoor
open Go.RowKit Go.ChangeMaps Go.MapKept

def nameA : ByteArray := ⟨#[97]⟩
theorem may_a : mayB nameA = true := by decide

theorem DM.append_short {D : DM} {s : ByteArray} {bs : List UInt8} (hm : mayB s = true) (hc : D.cut = false) (hn : D.files.length < 256) (hne : bs ≠ []) (hl : bs.length ≤ 32) (hb : (D.bytes s).length + bs.length ≤ 4194304) :
    D.append s bs = (0, { D with writes := D.writes + 1, files := putA s (D.bytes s ++ bs) D.files }) := by
  have hr : D.raw = some { D with writes := D.writes + 1 } := by unfold DM.raw; rw [hc]; simp
  unfold DM.append
  rw [if_neg (by rw [hm]; simp), if_neg (by omega), if_neg (by omega), if_neg (fun e => hne e.1), DM.pieces_step (k := bs.length) hne hr (.inr ⟨rfl, hl⟩), List.drop_length, DM.pieces_nil, List.take_length]
  rfl

theorem wakes_append : DM.append ⟨[], 0, 0, false⟩ nameA [1, 2] = (0, ⟨[(nameA, [1, 2])], 1, 0, false⟩) := by
  rw [DM.append_short may_a rfl (by simp) (by simp) (by simp) (by simp [DM.bytes, getA])]
  rfl

theorem isB_new2 (w : World) : IsB (w.alloc (.cells #[.int .u8 1, .int .u8 2] 5)) (.slice (some ⟨w.heap.size, 0, none⟩) 2 2) [1, 2] := by
  refine ⟨_, _, rfl, by simp, by simp [maxLen], .inr ⟨w.heap.size, 0, rfl, by simp, fun i x hx => ?_⟩⟩
  rw [Nat.zero_add, World.cell?_alloc_new]
  simpa [bytesV] using hx

theorem append_eq {w : World} {b m : Nat} {es : Array MapEntry} {clock : Nat} {D : DM} {s : ByteArray} {r : Int} {D' : DM} {a : Option Addr} {n c : Nat} {bs : List UInt8} (he : D.append s bs = (r, D')) (h : DiskAt w b m es clock D) (hs : s.size ≤ maxLen) (hv : IsB w (.slice a n c) bs)
    (hsep : bs ≠ [] → ∀ g, (Value.slice a n c).ownBlock = some g → ¬ diskF b m es g) (hw : D.writes < 2305843009213693952) :
    Calls Tryd.prog 28 #[.pointer (some ⟨b, 0, none⟩), .string s, .slice a n c] w (EndD w b m es r D') := by
  obtain rfl : n = bs.length := by obtain ⟨_, _, e, _⟩ := hv; cases e; rfl
  have := append_any h hs a c bs hv hsep hw
  rw [he] at this
  exact this

theorem OwnB.cells {w : World} {v : Value} {bs : List UInt8} (h : OwnB w v bs) (hne : bs ≠ []) : ∃ g cap, v = .slice (some ⟨g, 0, none⟩) bs.length cap ∧ bs.length ≤ cap ∧ ∀ i x, (bytesV bs)[i]? = some x → w.cell? ⟨g, i, none⟩ = some x := by
  obtain ⟨a, c, rfl, h1, h2, h3⟩ := h.isB
  rcases h3 with h3 | ⟨g, o, rfl, hg, h4⟩
  · exact absurd h3 hne
  · have : o = 0 := by
      rcases h.2 with ⟨hv, _⟩ | ⟨g', cap, cur, hv, _⟩
      · cases hv
      · cases hv; rfl
    subst this
    exact ⟨g, c, rfl, h1, fun i x hx => by simpa using h4 i x hx⟩

theorem wakes02_any (w : World) : Calls Tryd.prog 7 #[] w fun e w' => e = .returned (.bool true) ∧ Kept (fun _ => False) w w' := by
  go_enter Tryd.func7, Tryd.ntmps7
  go_wp2_with fail
  refine (new_any w).mono ?_
  rintro e w1 ⟨b, m, rfl, hb, hm, hd, hk1⟩
  have hs2 := isB_new2 w1
  have hk2 : Kept (fun _ => False) w1 (w1.alloc (.cells #[.int .u8 1, .int .u8 2] 5)) := (Kept.refl _ _).alloc _
  have hlt := hd.lt
  have hd2 := hd.kept hk2 (fun _ _ hf => hf)
  go_wp2_with fail
  refine (append_eq wakes_append hd2 (by decide) hs2 (fun _ g hg hf => by cases hg; have := hlt _ hf; simp at this) (by simp)).mono ?_
  rintro e w3 ⟨rfl, es3, c3, ha⟩
  go_wp2_with fail
  refine (read_any ha.disk nameA).mono ?_
  rintro e w4 ⟨v, rfl, hf, -⟩
  have hfo := hf.own
  have hd4 := ha.disk.kept hf.kept (fun _ _ hf => hf)
  rw [show DM.bytes ⟨[(nameA, [1, 2])], 1, 0, false⟩ nameA = [1, 2] from rfl] at hfo
  obtain ⟨g, cap, rfl, hcap, hcell⟩ := hfo.cells (by simp)
  have h1 : w4.cell? ⟨g, 1, none⟩ = some (.int .u8 2) := hcell 1 _ rfl
  clear hcell
  have hget : (getA nameA ([(nameA, [1, 2])] : List (ByteArray × List UInt8))).isSome = true := rfl
  go_wp2_with (go_at_call 20; refine (writes_any hd4).mono ?_; rintro e w5 ⟨rfl, rfl⟩)
  go_ret
  refine ⟨rfl, (((hk1.more hk2 (fun _ h => h.elim)).more ha.kept ?_).more hf.kept (fun _ h => h.elim))⟩
  rintro k (rfl | rfl | ⟨e, he, _⟩)
  · exact hb
  · exact hm
  · simp at he
end Go.Proofs.YtjnhkepgoghogaaDoor
