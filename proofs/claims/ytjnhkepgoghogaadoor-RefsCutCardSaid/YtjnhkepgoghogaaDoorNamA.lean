/- name.Check: what is wrong with a name: the plain law, and the closure look. -/
import Derived.Test.YtjnhkepgoghogaaDoorPhase
import Derived.Test.YtjnhkepgoghogaaDoorDiskF
import Derived.Laws.RangeAny
import Derived.Lib.OthersKept
import Derived.Lib.FieldsU
namespace Go.Proofs.YtjnhkepgoghogaaDoor
open Go.RowKit Go.ChangeMaps Go.MapKept
set_option linter.unusedSimpArgs false

/-- What Check knows at a place of the name. -/
structure ChkS where
  last : Nat
  wrong : Int
  ahead : Nat
def ChkS.odd (c : ChkS) (e : Nat) : Bool := decide (c.wrong < 0) && (decide (c.ahead = 65533) && decide ((e : Int) - c.last < 3))
def ChkS.look (c : ChkS) (e : Nat) : ChkS := if c.odd e then { c with wrong := c.last } else c
def badRune (r : Nat) : Bool := decide (r < 32) || (decide (r = 127) || decide (r = 47))
def chkGo (s : ByteArray) : Nat → Nat → ChkS → ChkS
  | 0, _, c => c
  | f + 1, pos, c =>
    if pos < s.size then
      let c1 := if 0 < pos then c.look pos else c
      if 0 ≤ c1.wrong then c1
      else chkGo s f (pos + (Utf8.decode s pos).2) ⟨pos, if badRune (Utf8.decode s pos).1 then pos else c1.wrong, (Utf8.decode s pos).1⟩
    else c
def checkEnd (s : ByteArray) : ChkS := (chkGo s s.size 0 ⟨0, -1, 32⟩).look s.size
def checkOf (s : ByteArray) : Int × Int :=
  if s = ⟨#[]⟩ ∨ s = ⟨#[46]⟩ ∨ s = ⟨#[46, 46]⟩ then (140, 0)
  else if 32 < s.size then (3, 32)
  else if 0 ≤ (checkEnd s).wrong then (140, (checkEnd s).wrong)
  else (0, 0)

/-- The three variables that look has, each in a block of its own. -/
structure ChkAt (w : World) (Lb Wb Ab : Nat) (c : ChkS) : Prop where
  last : w.heap[Lb]? = some (.cells #[.int .i64 c.last] 3 (0, 0))
  wrong : w.heap[Wb]? = some (.cells #[.int .i64 c.wrong] 3 (0, 0))
  ahead : w.heap[Ab]? = some (.cells #[.int .i32 c.ahead] 21 (0, 0))
  lw : Lb ≠ Wb
  la : Lb ≠ Ab
  wa : Wb ≠ Ab
theorem ChkAt.kept {w w' : World} {Lb Wb Ab : Nat} {c : ChkS} (h : ChkAt w Lb Wb Ab c) {F : Nat → Prop} (hk : Kept F w w') (h1 : ¬ F Lb) (h2 : ¬ F Wb) (h3 : ¬ F Ab) : ChkAt w' Lb Wb Ab c :=
  ⟨(hk.block _ (Array.getElem?_eq_some_iff.1 h.last).1 h1).trans h.last, (hk.block _ (Array.getElem?_eq_some_iff.1 h.wrong).1 h2).trans h.wrong, (hk.block _ (Array.getElem?_eq_some_iff.1 h.ahead).1 h3).trans h.ahead, h.lw, h.la, h.wa⟩

set_option maxRecDepth 100000 in
set_option maxHeartbeats 2000000 in
theorem look_any (w : World) (Lb Wb Ab : Nat) (c : ChkS) (h : ChkAt w Lb Wb Ab c) (e : Nat) (he : e ≤ 1000) (hl : c.last ≤ 1000) (hw1 : -1 ≤ c.wrong) (hw2 : c.wrong ≤ 1000) :
    Calls Tryd.prog 109 #[.int .i64 e, .pointer (some ⟨Wb, 0, none⟩), .pointer (some ⟨Ab, 0, none⟩), .pointer (some ⟨Lb, 0, none⟩)] w fun r w' => r = .returned (.tuple #[]) ∧ ChkAt w' Lb Wb Ab (c.look e) ∧ Kept (· = Wb) w w' := by
  have H := Lib.hid h
  have c1 : w.cell? ⟨Wb, 0, none⟩ = some (.int .i64 c.wrong) := by simp [World.cell?, h.wrong]
  have c2 : w.cell? ⟨Ab, 0, none⟩ = some (.int .i32 c.ahead) := by simp [World.cell?, h.ahead]
  have c3 : w.cell? ⟨Lb, 0, none⟩ = some (.int .i64 c.last) := by simp [World.cell?, h.last]
  have fz : w.frozen? ⟨Wb, 0, none⟩ = false := by simp [World.frozen?, h.wrong]
  obtain ⟨la, wr, ah⟩ := c
  simp only at c1 c2 c3 hl hw1 hw2
  have HST : Hid (ChkAt (w.setCell ⟨Wb, 0, none⟩ (.int .i64 la)) Lb Wb Ab ⟨la, la, ah⟩ ∧ Kept (· = Wb) w (w.setCell ⟨Wb, 0, none⟩ (.int .i64 la))) := Lib.hid (by
    have hk : Kept (· = Wb) w (w.setCell ⟨Wb, 0, none⟩ (.int .i64 la)) := (Kept.refl (· = Wb) w).setCell (p := ⟨Wb, 0, none⟩) (fun _ => rfl) _
    exact ⟨⟨by rw [heap_setCell_ne h.lw]; exact h.last, (heap_setCell_row h.wrong _).trans rfl, by rw [heap_setCell_ne (Ne.symm h.wa)]; exact h.ahead, h.lw, h.la, h.wa⟩, hk⟩)
  have HNO : Hid (ChkAt w Lb Wb Ab ⟨la, wr, ah⟩ ∧ Kept (· = Wb) w w) := Lib.hid ⟨h, Kept.refl _ _⟩
  clear h
  by_cases hwn : wr < 0
  · by_cases hah : (ah : Int) = 65533
    · by_cases hln : (e : Int) - la < 3
      · have hlook : ChkS.look ⟨la, wr, ah⟩ e = ⟨la, la, ah⟩ := by
          have : ah = 65533 := by omega
          simp [ChkS.look, ChkS.odd, hwn, this, hln]
        rw [hlook]
        go_enter Tryd.func109, Tryd.ntmps109
        go_wp2_with fail
        go_end0
        exact ⟨rfl, HST.out⟩
      · have hlook : ChkS.look ⟨la, wr, ah⟩ e = ⟨la, wr, ah⟩ := by simp [ChkS.look, ChkS.odd, hln]
        rw [hlook]
        go_enter Tryd.func109, Tryd.ntmps109
        go_wp2_with fail
        go_end0
        exact ⟨rfl, HNO.out⟩
    · have hlook : ChkS.look ⟨la, wr, ah⟩ e = ⟨la, wr, ah⟩ := by
        have : ¬ ah = 65533 := by omega
        simp [ChkS.look, ChkS.odd, this]
      rw [hlook]
      have hahb : ((ah : Int) == 65533) = false := by simp [hah]
      go_enter Tryd.func109, Tryd.ntmps109
      go_wp2_with fail
      go_end0
      exact ⟨rfl, HNO.out⟩
  · have hlook : ChkS.look ⟨la, wr, ah⟩ e = ⟨la, wr, ah⟩ := by simp [ChkS.look, ChkS.odd, hwn]
    rw [hlook]
    go_enter Tryd.func109, Tryd.ntmps109
    go_wp2_with fail
    go_end0
    exact ⟨rfl, HNO.out⟩
end Go.Proofs.YtjnhkepgoghogaaDoor
