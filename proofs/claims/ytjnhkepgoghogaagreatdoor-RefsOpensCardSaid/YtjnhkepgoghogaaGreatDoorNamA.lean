/- name.Check: what is wrong with a name: the plain law, and the closure look. -/
import Derived.Test.YtjnhkepgoghogaaGreatDoorPhase
import Derived.Test.YtjnhkepgoghogaaGreatDoorDiskF
import Derived.Laws.RangeAny
import Derived.Lib.OthersKept
import Derived.Lib.FieldsU
import Derived.Lib.SlicesS
namespace Go.Proofs.YtjnhkepgoghogaaGreatDoor
open Go.RowKit Go.ChangeMaps Go.MapKept
set_option linter.unusedSimpArgs false

/-- What Check knows at a place of the name. -/
structure ChkS where
  last : Nat
  wrong : Int
  ahead : Nat
def ChkS.odd (c : ChkS) (e : Nat) : Bool := decide (c.wrong < 0) && (decide (c.ahead = 65533) && decide ((e : Int) - c.last < 3))
def ChkS.look (c : ChkS) (e : Nat) : ChkS := if c.odd e then { c with wrong := c.last } else c
def badRune (r : Nat) : Bool := decide (r < 32) || (decide (r = 127) || decide (r = 47))
def chkGo (s : ByteArray) : Nat → Nat → ChkS → ChkS
  | 0, _, c => c
  | f + 1, pos, c =>
    if pos < s.size then
      let c1 := if 0 < pos then c.look pos else c
      if 0 ≤ c1.wrong then c1
      else chkGo s f (pos + (Utf8.decode s pos).2) ⟨pos, if badRune (Utf8.decode s pos).1 then pos else c1.wrong, (Utf8.decode s pos).1⟩
    else c
def checkEnd (s : ByteArray) : ChkS := (chkGo s s.size 0 ⟨0, -1, 32⟩).look s.size
def checkOf (s : ByteArray) : Int × Int :=
  if s = ⟨#[]⟩ ∨ s = ⟨#[46]⟩ ∨ s = ⟨#[46, 46]⟩ then (140, 0)
  else if 32 < s.size then (3, 32)
  else if 0 ≤ (checkEnd s).wrong then (140, (checkEnd s).wrong)
  else (0, 0)

/-- The three variables that look has, each in a block of its own. -/
structure ChkAt (w : World) (Lb Wb Ab : Nat) (c : ChkS) : Prop where
  last : w.heap[Lb]? = some (.cells #[.int .i64 c.last] 3 (0, 0))
  wrong : w.heap[Wb]? = some (.cells #[.int .i64 c.wrong] 3 (0, 0))
  ahead : w.heap[Ab]? = some (.cells #[.int .i32 c.ahead] 21 (0, 0))
  lw : Lb ≠ Wb
  la : Lb ≠ Ab
  wa : Wb ≠ Ab
theorem ChkAt.kept {w w' : World} {Lb Wb Ab : Nat} {c : ChkS} (h : ChkAt w Lb Wb Ab c) {F : Nat → Prop} (hk : Kept F w w') (h1 : ¬ F Lb) (h2 : ¬ F Wb) (h3 : ¬ F Ab) : ChkAt w' Lb Wb Ab c :=
  ⟨(hk.block _ (Array.getElem?_eq_some_iff.1 h.last).1 h1).trans h.last, (hk.block _ (Array.getElem?_eq_some_iff.1 h.wrong).1 h2).trans h.wrong, (hk.block _ (Array.getElem?_eq_some_iff.1 h.ahead).1 h3).trans h.ahead, h.lw, h.la, h.wa⟩

set_option maxRecDepth 100000 in
set_option maxHeartbeats 2000000 in
theorem look_any (w : World) (Lb Wb Ab : Nat) (c : ChkS) (h : ChkAt w Lb Wb Ab c) (e : Nat) (he : e ≤ 1000) (hl : c.last ≤ 1000) (hw1 : -1 ≤ c.wrong) (hw2 : c.wrong ≤ 1000) :
    Calls Tryz.prog 85 #[.int .i64 e, .pointer (some ⟨Wb, 0, none⟩), .pointer (some ⟨Ab, 0, none⟩), .pointer (some ⟨Lb, 0, none⟩)] w fun r w' => r = .returned (.tuple #[]) ∧ ChkAt w' Lb Wb Ab (c.look e) ∧ Kept (· = Wb) w w' := by
  have H := Lib.hid h
  have c1 : w.cell? ⟨Wb, 0, none⟩ = some (.int .i64 c.wrong) := by simp [World.cell?, h.wrong]
  have c2 : w.cell? ⟨Ab, 0, none⟩ = some (.int .i32 c.ahead) := by simp [World.cell?, h.ahead]
  have c3 : w.cell? ⟨Lb, 0, none⟩ = some (.int .i64 c.last) := by simp [World.cell?, h.last]
  have fz : w.frozen? ⟨Wb, 0, none⟩ = false := by simp [World.frozen?, h.wrong]
  obtain ⟨la, wr, ah⟩ := c
  simp only at c1 c2 c3 hl hw1 hw2
  have HST : Hid (ChkAt (w.setCell ⟨Wb, 0, none⟩ (.int .i64 la)) Lb Wb Ab ⟨la, la, ah⟩ ∧ Kept (· = Wb) w (w.setCell ⟨Wb, 0, none⟩ (.int .i64 la))) := Lib.hid (by
    have hk : Kept (· = Wb) w (w.setCell ⟨Wb, 0, none⟩ (.int .i64 la)) := (Kept.refl (· = Wb) w).setCell (p := ⟨Wb, 0, none⟩) (fun _ => rfl) _
    exact ⟨⟨by rw [heap_setCell_ne h.lw]; exact h.last, (heap_setCell_row h.wrong _).trans rfl, by rw [heap_setCell_ne (Ne.symm h.wa)]; exact h.ahead, h.lw, h.la, h.wa⟩, hk⟩)
  have HNO : Hid (ChkAt w Lb Wb Ab ⟨la, wr, ah⟩ ∧ Kept (· = Wb) w w) := Lib.hid ⟨h, Kept.refl _ _⟩
  clear h
  by_cases hwn : wr < 0
  · by_cases hah : (ah : Int) = 65533
    · by_cases hln : (e : Int) - la < 3
      · have hlook : ChkS.look ⟨la, wr, ah⟩ e = ⟨la, la, ah⟩ := by
          have : ah = 65533 := by omega
          simp [ChkS.look, ChkS.odd, hwn, this, hln]
        rw [hlook]
        go_enter Tryz.func85, Tryz.ntmps85
        go_wp2_with fail
        go_end0
        exact ⟨rfl, HST.out⟩
      · have hlook : ChkS.look ⟨la, wr, ah⟩ e = ⟨la, wr, ah⟩ := by simp [ChkS.look, ChkS.odd, hln]
        rw [hlook]
        go_enter Tryz.func85, Tryz.ntmps85
        go_wp2_with fail
        go_end0
        exact ⟨rfl, HNO.out⟩
    · have hlook : ChkS.look ⟨la, wr, ah⟩ e = ⟨la, wr, ah⟩ := by
        have : ¬ ah = 65533 := by omega
        simp [ChkS.look, ChkS.odd, this]
      rw [hlook]
      have hahb : ((ah : Int) == 65533) = false := by simp [hah]
      go_enter Tryz.func85, Tryz.ntmps85
      go_wp2_with fail
      go_end0
      exact ⟨rfl, HNO.out⟩
  · have hlook : ChkS.look ⟨la, wr, ah⟩ e = ⟨la, wr, ah⟩ := by simp [ChkS.look, ChkS.odd, hwn]
    rw [hlook]
    go_enter Tryz.func85, Tryz.ntmps85
    go_wp2_with fail
    go_end0
    exact ⟨rfl, HNO.out⟩
end Go.Proofs.YtjnhkepgoghogaaGreatDoor

/- name.Check: the walk. -/
namespace Go.Proofs.YtjnhkepgoghogaaGreatDoor
open Go.RowKit Go.ChangeMaps Go.MapKept
set_option linter.unusedSimpArgs false

theorem iterAt_ne {w : World} {k i : Nat} (h : i ≠ k) (s : ByteArray) (p : Nat) : (w.iterAt k s p).heap[i]? = w.heap[i]? := by
  simp only [World.iterAt]
  exact Array.getElem?_setIfInBounds_ne (Ne.symm h)
theorem Kept.iterAt {F : Nat → Prop} {a w : World} (h : Kept F a w) {k : Nat} (hk : a.heap.size ≤ k) (s : ByteArray) (p : Nat) : Kept F a (w.iterAt k s p) := by
  obtain ⟨h1, h2, h3, h4, h5⟩ := h
  refine ⟨h1, h2, h3, ?_, fun i hi hn => ?_⟩
  · simpa [World.iterAt] using h4
  · rw [iterAt_ne (by omega)]; exact h5 i hi hn

theorem alloc_old {w : World} {o : Obj} {k : Nat} {x : Obj} (h : w.heap[k]? = some x) : (w.alloc o).heap[k]? = some x := by
  have hk := (Array.getElem?_eq_some_iff.1 h).1
  rw [← h]
  exact Array.getElem?_push_lt (by simpa using hk) |>.trans (by simp [hk])
theorem lay5 (w : World) (c1 c2 c3 c4 : Array Value) (t1 t2 t3 t4 : TypeId) (s : ByteArray) :
    (((((w.alloc (.cells c1 t1)).alloc (.cells c2 t2)).alloc (.cells c3 t3)).alloc (.cells c4 t4)).iter s 0).heap[w.heap.size]? = some (.cells c1 t1 (0, 0)) ∧
    (((((w.alloc (.cells c1 t1)).alloc (.cells c2 t2)).alloc (.cells c3 t3)).alloc (.cells c4 t4)).iter s 0).heap[w.heap.size + 1]? = some (.cells c2 t2 (0, 0)) ∧
    (((((w.alloc (.cells c1 t1)).alloc (.cells c2 t2)).alloc (.cells c3 t3)).alloc (.cells c4 t4)).iter s 0).heap[w.heap.size + 1 + 1]? = some (.cells c3 t3 (0, 0)) ∧
    (((((w.alloc (.cells c1 t1)).alloc (.cells c2 t2)).alloc (.cells c3 t3)).alloc (.cells c4 t4)).iter s 0).heap[w.heap.size + 1 + 1 + 1]? = some (.cells c4 t4 (0, 0)) ∧
    (((((w.alloc (.cells c1 t1)).alloc (.cells c2 t2)).alloc (.cells c3 t3)).alloc (.cells c4 t4)).iter s 0).heap[w.heap.size + 1 + 1 + 1 + 1]? = some (.stringIter s 0) := by
  have sz : ∀ (w : World) (o : Obj), (w.alloc o).heap.size = w.heap.size + 1 := fun w o => by simp
  refine ⟨alloc_old (alloc_old (alloc_old (alloc_old (heap_alloc_new _ _)))), ?_, ?_, ?_, ?_⟩
  · have h := heap_alloc_new (w.alloc (.cells c1 t1)) (.cells c2 t2)
    rw [sz] at h
    exact alloc_old (alloc_old (alloc_old h))
  · have h := heap_alloc_new ((w.alloc (.cells c1 t1)).alloc (.cells c2 t2)) (.cells c3 t3)
    rw [sz, sz] at h
    exact alloc_old (alloc_old h)
  · have h := heap_alloc_new (((w.alloc (.cells c1 t1)).alloc (.cells c2 t2)).alloc (.cells c3 t3)) (.cells c4 t4)
    rw [sz, sz, sz] at h
    exact alloc_old h
  · have h := World.iter_heap ((((w.alloc (.cells c1 t1)).alloc (.cells c2 t2)).alloc (.cells c3 t3)).alloc (.cells c4 t4)) s 0
    rw [sz, sz, sz, sz] at h
    exact h
/-- The next place. -/
theorem chkGo_next {s : ByteArray} {f pos : Nat} {c c1 : ChkS} (hlt : pos < s.size) (h1 : (if 0 < pos then c.look pos else c) = c1) (h2 : ¬ 0 ≤ c1.wrong) : chkGo s (f + 1) pos c = chkGo s f (pos + (Utf8.decode s pos).2) ⟨pos, if badRune (Utf8.decode s pos).1 then pos else c1.wrong, (Utf8.decode s pos).1⟩ := by
  simp [chkGo, hlt, h1, h2]
theorem chkGo_left {s : ByteArray} {f pos : Nat} {c c1 : ChkS} (hlt : pos < s.size) (h1 : (if 0 < pos then c.look pos else c) = c1) (h2 : 0 ≤ c1.wrong) : chkGo s (f + 1) pos c = c1 := by
  simp [chkGo, hlt, h1, h2]
theorem chkGo_over {s : ByteArray} {f pos : Nat} {c : ChkS} (hlt : ¬ pos < s.size) : chkGo s f pos c = c := by
  cases f <;> simp [chkGo, hlt]
theorem ChkS.look_wrong (c : ChkS) (e N : Nat) (h1 : c.last ≤ N) (h2 : -1 ≤ c.wrong) (h3 : c.wrong ≤ N) : -1 ≤ (c.look e).wrong ∧ (c.look e).wrong ≤ N ∧ (c.look e).last = c.last := by
  unfold ChkS.look
  split
  · exact ⟨by simp only []; omega, by simp only []; omega, rfl⟩
  · exact ⟨h2, h3, rfl⟩

/-- A rune was seen. -/
theorem ChkAt.seen {w : World} {Lb Wb Ab : Nat} {c : ChkS} (h : ChkAt w Lb Wb Ab c) (p r : Nat) : ChkAt ((w.setCell ⟨Lb, 0, none⟩ (.int .i64 (p : Int))).setCell ⟨Ab, 0, none⟩ (.int .i32 (r : Int))) Lb Wb Ab ⟨p, c.wrong, r⟩ ∧
    Kept (fun k => k = Lb ∨ k = Wb ∨ k = Ab) w ((w.setCell ⟨Lb, 0, none⟩ (.int .i64 (p : Int))).setCell ⟨Ab, 0, none⟩ (.int .i32 (r : Int))) := by
  refine ⟨⟨?_, ?_, ?_, h.lw, h.la, h.wa⟩, ((Kept.refl (fun k => k = Lb ∨ k = Wb ∨ k = Ab) w).setCell (p := ⟨Lb, 0, none⟩) (fun _ => .inl rfl) _).setCell (p := ⟨Ab, 0, none⟩) (fun _ => .inr (.inr rfl)) _⟩
  · rw [heap_setCell_ne h.la]; exact (heap_setCell_row h.last _).trans rfl
  · rw [heap_setCell_ne h.wa, heap_setCell_ne (Ne.symm h.lw)]; exact h.wrong
  · exact (heap_setCell_row ((heap_setCell_ne (Ne.symm h.la) _).trans h.ahead) _).trans rfl
theorem ChkAt.ill {w : World} {Lb Wb Ab : Nat} {c : ChkS} (h : ChkAt w Lb Wb Ab c) (p : Nat) : ChkAt (w.setCell ⟨Wb, 0, none⟩ (.int .i64 (p : Int))) Lb Wb Ab ⟨c.last, p, c.ahead⟩ ∧ Kept (fun k => k = Lb ∨ k = Wb ∨ k = Ab) w (w.setCell ⟨Wb, 0, none⟩ (.int .i64 (p : Int))) := by
  refine ⟨⟨?_, ?_, ?_, h.lw, h.la, h.wa⟩, (Kept.refl (fun k => k = Lb ∨ k = Wb ∨ k = Ab) w).setCell (p := ⟨Wb, 0, none⟩) (fun _ => .inr (.inl rfl)) _⟩
  · rw [heap_setCell_ne h.lw]; exact h.last
  · exact (heap_setCell_row h.wrong _).trans rfl
  · rw [heap_setCell_ne (Ne.symm h.wa)]; exact h.ahead
/-- What stands at the head of a round. -/
def ChkRel (s : ByteArray) (w : World) (n g : Nat) (wr : World) : Prop := ∃ (pos : Nat) (c : ChkS), Hid (chkGo s g pos c = chkGo s s.size 0 ⟨0, -1, 32⟩) ∧ s.size ≤ pos + g ∧ pos ≤ s.size ∧ c.last ≤ 32 ∧ -1 ≤ c.wrong ∧ c.wrong ≤ 32 ∧ Hid (wr.heap[n + 1 + 1 + 1 + 1]? = some (.stringIter s pos)) ∧ Hid (ChkAt wr (n + 1) (n + 1 + 1) (n + 1 + 1 + 1) c) ∧ Hid (wr.heap[n]? = some (.cells #[.int .i64 0, .int .i64 0] 77 (0, 0))) ∧ Hid (Kept (fun _ => False) w wr)
theorem ChkRel.go {s : ByteArray} {w V V' : World} {n g pos q : Nat} {c : ChkS} (hn : w.heap.size = n) (hg : chkGo s g (pos + q) c = chkGo s s.size 0 ⟨0, -1, 32⟩) (h1 : s.size ≤ pos + q + g) (h2 : pos + q ≤ s.size) (h3 : c.last ≤ 32) (h4 : -1 ≤ c.wrong) (h5 : c.wrong ≤ 32)
    (hI : V.heap[n + 1 + 1 + 1 + 1]? = some (.stringIter s (pos + q))) (hC : ChkAt V' (n + 1) (n + 1 + 1) (n + 1 + 1 + 1) c) (hR : V.heap[n]? = some (.cells #[.int .i64 0, .int .i64 0] 77 (0, 0))) (hk : Kept (fun _ => False) w V) (hv : Kept (fun k => k = n + 1 ∨ k = n + 1 + 1 ∨ k = n + 1 + 1 + 1) V V') : ChkRel s w n g V' :=
  ⟨pos + q, c, Lib.hid hg, h1, h2, h3, h4, h5, Lib.hid ((hv.block _ (Array.getElem?_eq_some_iff.1 hI).1 (by omega)).trans hI), Lib.hid hC, Lib.hid ((hv.block _ (Array.getElem?_eq_some_iff.1 hR).1 (by omega)).trans hR), Lib.hid (hk.trans hv (fun i hi e => by omega))⟩

theorem spot_ret {w W : World} {R : Nat} {x y : Int} {fn : Func} {t : Tmp} {a : Act} (hf : fn.results = #[.cell t 77]) (ht : a.tmps.getD t undef = .pointer (some ⟨R, 0, none⟩)) (hd : a.defers = []) (hR : W.heap[R]? = some (.cells #[.int .i64 x, .int .i64 y] 77 (0, 0)))
    (hk : Kept (fun _ => False) w W) {z : Int × Int} (hz : z = (x, y)) : bodyPost Tryz.prog fn (fun e w' => e = .returned (.agg #[.int .i64 z.1, .int .i64 z.2]) ∧ Kept (fun _ => False) w w') .ret a W := by
  subst hz
  refine bodyPost_ret (v := .agg #[.int .i64 x, .int .i64 y]) ?_ hd ⟨rfl, hk⟩
  have c0 : W.cell? ⟨R, 0, none⟩ = some (.int .i64 x) := by simp [World.cell?, hR]
  have c1 : W.cell? ⟨R, 1, none⟩ = some (.int .i64 y) := by simp [World.cell?, hR]
  have hld : (loadVar 77 ⟨R, 0, none⟩).run Tryz.prog W = .ok (.agg #[.int .i64 x, .int .i64 y]) W := by go_simp
  have ht2 : a.tmps[t]?.getD undef = .pointer (some ⟨R, 0, none⟩) := by simpa using ht
  simp [results, hf, ht2, asAddr, Result.andThen, hld]

set_option maxRecDepth 100000 in
set_option maxHeartbeats 4000000 in
theorem check_any (s : ByteArray) (hs : s.size ≤ maxLen) (w : World) :
    Calls Tryz.prog 77 #[.string s] w fun e w' => e = .returned (.agg #[.int .i64 (checkOf s).1, .int .i64 (checkOf s).2]) ∧ Kept (fun _ => False) w w' := by
  by_cases h0 : s = ⟨#[]⟩
  · subst h0
    go_enter Tryz.func77, Tryz.ntmps77
    go_wp2_with fail
    refine spot_ret rfl rfl rfl (heap_alloc_new _ _) ((Kept.refl _ _).alloc _) ?_
    simp [checkOf]
  · have h0b : s.toList.isEmpty = false := by
      have h := (Lib.bytes_beq_false_iff s ⟨#[]⟩).2 h0
      rw [show ByteArray.toList ⟨#[]⟩ = [] from by kernel_rfl] at h
      cases hl : s.toList <;> simp_all
    by_cases h1 : s = ⟨#[46]⟩
    · subst h1
      go_enter Tryz.func77, Tryz.ntmps77
      go_wp2_with fail
      refine spot_ret rfl rfl rfl (heap_alloc_new _ _) ((Kept.refl _ _).alloc _) ?_
      simp [checkOf]
    · have h1b : (s.toList == [46]) = false := by
        have h := (Lib.bytes_beq_false_iff s ⟨#[46]⟩).2 h1
        rwa [show ByteArray.toList ⟨#[46]⟩ = [46] from by kernel_rfl] at h
      by_cases h2 : s = ⟨#[46, 46]⟩
      · subst h2
        go_enter Tryz.func77, Tryz.ntmps77
        go_wp2_with fail
        refine spot_ret rfl rfl rfl (heap_alloc_new _ _) ((Kept.refl _ _).alloc _) ?_
        simp [checkOf]
      · have h2b : (s.toList == [46, 46]) = false := by
          have h := (Lib.bytes_beq_false_iff s ⟨#[46, 46]⟩).2 h2
          rwa [show ByteArray.toList ⟨#[46, 46]⟩ = [46, 46] from by kernel_rfl] at h
        by_cases h3 : 32 < s.size
        · have h3b : decide (32 < (s.size : Int)) = true := by simp; omega
          go_enter Tryz.func77, Tryz.ntmps77
          go_wp2_with fail
          refine spot_ret rfl rfl rfl (heap_alloc_new _ _) ((Kept.refl _ _).alloc _) ?_
          simp [checkOf, h0, h1, h2, h3]
        · have h3b : decide (32 < (s.size : Int)) = false := by simp; omega
          go_enter Tryz.func77, Tryz.ntmps77
          go_wp2_with fail
          obtain ⟨w4, hw4⟩ : ∃ W, ((((w.alloc (.cells #[.int .i64 0, .int .i64 0] 77)).alloc (.cells #[.int .i64 0] 3)).alloc (.cells #[.int .i64 (-1)] 3)).alloc (.cells #[.int .i32 32] 21)).iter s 0 = W := ⟨_, rfl⟩
          have hk4 : Kept (fun _ => False) w w4 := by rw [← hw4]; exact ((((Kept.refl _ _).alloc _).alloc _).alloc _).alloc _ |>.alloc _
          obtain ⟨n, hn⟩ : ∃ n, w.heap.size = n := ⟨_, rfl⟩
          obtain ⟨hR4, hL4, hW4, hA4, hit4⟩ := lay5 w #[.int .i64 0, .int .i64 0] #[.int .i64 0] #[.int .i64 (-1)] #[.int .i32 32] 77 3 3 21 s
          rw [hw4, hn] at hR4 hL4 hW4 hA4 hit4
          have hC4 : ChkAt w4 (n + 1) (n + 1 + 1) (n + 1 + 1 + 1) ⟨0, -1, 32⟩ := ⟨hL4, hW4, hA4, by omega, by omega, by omega⟩
          rw [hw4, hn]
          have HN := Lib.hid hn
          have HK4 := Lib.hid hk4
          have HI4 := Lib.hid hit4
          have HR4 := Lib.hid hR4
          have HC4 := Lib.hid hC4
          clear hw4 hn hk4 hit4 hR4 hC4 hL4 hW4 hA4
          go_loopg [] s.size (fun gg wr => ChkRel s w n gg wr)
          case atStart => exact ⟨0, ⟨0, -1, 32⟩, Lib.hid rfl, by omega, by omega, by simp, by simp, by simp, HI4, HC4, HR4, HK4⟩
          case round =>
            obtain ⟨pos, c, HG, hfu, hps, hcl, hcw1, hcw2, HI, HC, HR, HK⟩ := hrel
            clear HI4 HC4 HR4 HK4
            by_cases hlt : pos < s.size
            · obtain ⟨g', rfl⟩ : ∃ g', gk = g' + 1 := ⟨gk - 1, by omega⟩
              have hnx : ∀ ty, (Instr.next (.pointer (some ⟨n + 1 + 1 + 1 + 1, 0, none⟩)) true ty).run Tryz.prog wr = _ := fun ty => Lib.run_next_any_at wr (n + 1 + 1 + 1 + 1) s pos ty HI.out hlt
              have hwd := Lib.width_pos s pos
              have hwn : pos + (Utf8.decode s pos).2 ≤ s.size := by
                have := Lib.decodeN_le_n' (s.size - pos) (s.get! pos).toNat (s.get! (pos + 1)).toNat (s.get! (pos + 2)).toNat (s.get! (pos + 3)).toNat (by omega)
                rw [← Lib.decode_at] at this
                omega
              have hrl := decode_le s pos
              have HGN := Lib.hid (fun (c1 : ChkS) h1 h2 => chkGo_next (s := s) (f := g') (pos := pos) (c := c) (c1 := c1) hlt h1 h2)
              have HGL := Lib.hid (fun (c1 : ChkS) h1 h2 => chkGo_left (s := s) (f := g') (pos := pos) (c := c) (c1 := c1) hlt h1 h2)
              have HI2 := Lib.hid (Lib.iterAt_heap wr (n + 1 + 1 + 1 + 1) s pos (pos + (Utf8.decode s pos).2) HI.out)
              obtain ⟨r, hr⟩ : ∃ R, (Utf8.decode s pos).1 = R := ⟨_, rfl⟩
              obtain ⟨q, hq⟩ : ∃ K, (Utf8.decode s pos).2 = K := ⟨_, rfl⟩
              rw [hr, hq] at hnx HGN
              rw [hq] at hwd hwn HI2
              rw [hr] at hrl
              have HKI : Hid (Kept (· = n + 1 + 1 + 1 + 1) wr (wr.iterAt (n + 1 + 1 + 1 + 1) s (pos + q))) := Lib.hid (by
                refine ⟨rfl, rfl, rfl, by simp [World.iterAt], fun i hi hne => iterAt_ne hne s _⟩)
              obtain ⟨W, hW⟩ : ∃ W, wr.iterAt (n + 1 + 1 + 1 + 1) s (pos + q) = W := ⟨_, rfl⟩
              rw [hW] at hnx HI2 HKI
              have HC2 : Hid (ChkAt W (n + 1) (n + 1 + 1) (n + 1 + 1 + 1) c) := Lib.hid (HC.out.kept HKI.out (by omega) (by omega) (by omega))
              have HR2 : Hid (W.heap[n]? = some (.cells #[.int .i64 0, .int .i64 0] 77 (0, 0))) := Lib.hid ((HKI.out.block n (Array.getElem?_eq_some_iff.1 HR.out).1 (by omega)).trans HR.out)
              have HK2 : Hid (Kept (fun _ => False) w W) := Lib.hid (HK.out.trans HKI.out (fun i hi e => by have := HN.out; omega))
              clear hW hr hq HI HC HR HK
              by_cases hp0 : 0 < pos
              · have hp0b : decide (0 < (pos : Int)) = true := by simp; omega
                go_wp2_with fail
                refine (look_any W _ _ _ c HC2.out pos (by omega) (by omega) (by omega) (by omega)).mono ?_
                rintro e W1 ⟨rfl, hC5, hk5⟩
                have HC5 := Lib.hid hC5
                have HR5 : Hid (W1.heap[n]? = some (.cells #[.int .i64 0, .int .i64 0] 77 (0, 0))) := Lib.hid ((hk5.block n (Array.getElem?_eq_some_iff.1 HR2.out).1 (by omega)).trans HR2.out)
                have HK5 : Hid (Kept (fun _ => False) w W1) := Lib.hid (HK2.out.trans hk5 (fun i hi e => by have := HN.out; omega))
                have HI5 : Hid (W1.heap[n + 1 + 1 + 1 + 1]? = some (.stringIter s (pos + q))) := Lib.hid ((hk5.block _ (Array.getElem?_eq_some_iff.1 HI2.out).1 (by omega)).trans HI2.out)
                obtain ⟨hb1, hb2, hb3⟩ := ChkS.look_wrong c pos 32 (by omega) (by omega) (by omega)
                obtain ⟨c1, hc1'⟩ : ∃ c1, c.look pos = c1 := ⟨_, rfl⟩
                rw [hc1'] at hb1 hb2 hb3 HC5
                have HC1 : Hid ((if 0 < pos then c.look pos else c) = c1) := Lib.hid (by rw [if_pos hp0, hc1'])
                have HB1 : Hid (c1.last ≤ 32 ∧ -1 ≤ c1.wrong ∧ c1.wrong ≤ 32) := Lib.hid ⟨by omega, hb1, hb2⟩
                clear hC5 hk5 hc1' hb1 hb2 hb3 hnx
                have hcb : c1.last ≤ 32 ∧ -1 ≤ c1.wrong ∧ c1.wrong ≤ 32 := HB1.out
                obtain ⟨hd1, hd2, hd3⟩ := hcb
                have v0 : W1.cell? ⟨n + 1 + 1, 0, none⟩ = some (.int .i64 c1.wrong) := by simp [World.cell?, (HC5).out.wrong]
                by_cases hw0 : 0 ≤ c1.wrong
                · have hwb : decide (0 ≤ c1.wrong) = true := by simp [hw0]
                  have hce : checkEnd s = c1.look s.size := by
                    unfold checkEnd
                    rw [← HG.out, HGL.out c1 HC1.out (by omega)]
                  go_wp2_with fail
                  have hcz := Lib.hid (show checkOf s = if 0 ≤ (checkEnd s).wrong then (140, (checkEnd s).wrong) else (0, 0) by simp [checkOf, h0, h1, h2, h3])
                  refine (look_any W1 _ _ _ c1 (HC5).out s.size (by omega) (by omega) (by omega) (by omega)).mono ?_
                  rintro e W6 ⟨rfl, hC6, hk6⟩
                  have hR6 := (hk6.block n (Array.getElem?_eq_some_iff.1 (HR5).out).1 (by omega)).trans (HR5).out
                  have hk7 : Kept (fun _ => False) w W6 := (HK5).out.trans hk6 (fun i hi e => by have := HN.out; omega)
                  obtain ⟨hb1, hb2, -⟩ := ChkS.look_wrong c1 s.size 32 (by omega) (by omega) (by omega)
                  rw [← hce] at hC6 hb1 hb2
                  obtain ⟨CE, hCE⟩ : ∃ C, checkEnd s = C := ⟨_, rfl⟩
                  rw [hCE] at hC6 hb1 hb2 hcz
                  have y0 : W6.cell? ⟨n + 1 + 1, 0, none⟩ = some (.int .i64 CE.wrong) := by simp [World.cell?, hC6.wrong]
                  have y1 : W6.cell? ⟨n, 0, none⟩ = some (.int .i64 0) := by simp [World.cell?, hR6]
                  have y2 : W6.cell? ⟨n, 1, none⟩ = some (.int .i64 0) := by simp [World.cell?, hR6]
                  have y3 : W6.frozen? ⟨n, 0, none⟩ = false := by simp [World.frozen?, hR6]
                  have y4 : W6.frozen? ⟨n, 1, none⟩ = false := by simp [World.frozen?, hR6]
                  have HR6 := Lib.hid hR6
                  have HK7 := Lib.hid hk7
                  clear hR6 hk7 hk6 hC6 hCE
                  have HS : ∀ x y : Int, Kept (fun _ => False) w ((W6.setCell ⟨n, 0, none⟩ (.int .i64 x)).setCell ⟨n, 1, none⟩ (.int .i64 y)) := fun x y => (HK7.out.setCell (p := ⟨n, 0, none⟩) (fun h => by have := HN.out; simp at h; omega) _).setCell (p := ⟨n, 1, none⟩) (fun h => by have := HN.out; simp at h; omega) _
                  have HSH := Lib.hid HS
                  clear HS
                  by_cases hz : 0 ≤ CE.wrong
                  · have hzb : decide (0 ≤ CE.wrong) = true := by simp [hz]
                    go_wp2_with fail
                    refine spot_ret rfl rfl rfl ((heap_setCell_row (heap_setCell_row HR6.out _) _).trans rfl) (HSH.out _ _) ?_
                    rw [hcz.out, if_pos (by omega)]
                  · have hzb : decide (0 ≤ CE.wrong) = false := by simp [hz]
                    go_wp2_with fail
                    refine spot_ret rfl rfl rfl ((heap_setCell_row (heap_setCell_row HR6.out _) _).trans rfl) (HSH.out _ _) ?_
                    rw [hcz.out, if_neg (by omega)]
                · have hwb : decide (0 ≤ c1.wrong) = false := by simp [hw0]
                  have v1 : W1.frozen? ⟨n + 1 + 1, 0, none⟩ = false := by simp [World.frozen?, (HC5).out.wrong]
                  have v2 : W1.frozen? ⟨n + 1, 0, none⟩ = false := by simp [World.frozen?, (HC5).out.last]
                  have v3 : W1.frozen? ⟨n + 1 + 1 + 1, 0, none⟩ = false := by simp [World.frozen?, (HC5).out.ahead]
                  have v4 : W1.cell? ⟨n + 1, 0, none⟩ = some (.int .i64 c1.last) := by simp [World.cell?, (HC5).out.last]
                  have v5 : W1.cell? ⟨n + 1 + 1 + 1, 0, none⟩ = some (.int .i32 c1.ahead) := by simp [World.cell?, (HC5).out.ahead]
                  have HGX := Lib.hid (HGN.out c1 HC1.out (by omega))
                  have HBAD : Hid (badRune r = true → ChkRel s w n g' (((W1.setCell ⟨n + 1, 0, none⟩ (.int .i64 (pos : Int))).setCell ⟨n + 1 + 1 + 1, 0, none⟩ (.int .i32 (r : Int))).setCell ⟨n + 1 + 1, 0, none⟩ (.int .i64 (pos : Int)))) := Lib.hid (fun hb => by
                    obtain ⟨k1, k2⟩ := (HC5).out.seen pos r
                    obtain ⟨k3, k4⟩ := k1.ill pos
                    exact ChkRel.go HN.out (by rw [← HG.out, HGX.out, if_pos hb]) (by omega) hwn (by simp only []; omega) (by simp only []; omega) (by simp only []; omega) (HI5).out k3 (HR5).out (HK5).out (k2.trans k4 (fun _ _ e => e)))
                  have HGUD : Hid (badRune r = false → ChkRel s w n g' ((W1.setCell ⟨n + 1, 0, none⟩ (.int .i64 (pos : Int))).setCell ⟨n + 1 + 1 + 1, 0, none⟩ (.int .i32 (r : Int)))) := Lib.hid (fun hb => by
                    obtain ⟨k1, k2⟩ := (HC5).out.seen pos r
                    exact ChkRel.go HN.out (by rw [← HG.out, HGX.out, if_neg (by rw [hb]; simp)]) (by omega) hwn (by simp only []; omega) (by simp only []; omega) (by simp only []; omega) (HI5).out k1 (HR5).out (HK5).out k2)
                  by_cases hr1 : r < 32
                  · have hr1b : decide ((r : Int) < 32) = true := by simp; omega
                    have hbd := Lib.hid (HBAD.out (by simp [badRune, hr1]))
                    clear hr1
                    go_wp2_with fail
                    go_roundg g'
                    case measure => omega
                    case rel => exact hbd.out
                  · have hr1b : decide ((r : Int) < 32) = false := by simp; omega
                    by_cases hr2 : r = 127
                    · have hbd := Lib.hid (HBAD.out (by simp [badRune, hr2]))
                      have hr2b : ((r : Int) == 127) = true := by simp; omega
                      clear hr1
                      subst hr2
                      go_wp2_with fail
                      go_roundg g'
                      case measure => omega
                      case rel => exact hbd.out
                    · have hr2b : ((r : Int) == 127) = false := by simp; omega
                      by_cases hr3 : r = 47
                      · have hbd := Lib.hid (HBAD.out (by simp [badRune, hr3]))
                        have hr3b : ((r : Int) == 47) = true := by simp; omega
                        clear hr1 hr2
                        subst hr3
                        go_wp2_with fail
                        go_roundg g'
                        case measure => omega
                        case rel => exact hbd.out
                      · have hbd := Lib.hid (HGUD.out (by simp [badRune, hr2, hr3]; omega))
                        have hr3b : ((r : Int) == 47) = false := by simp; omega
                        clear hr1 hr2 hr3
                        go_wp2_with fail
                        go_roundg g'
                        case measure => omega
                        case rel => exact hbd.out
              · have hp0b : decide (0 < (pos : Int)) = false := by simp; omega
                obtain ⟨c1, hc1⟩ : ∃ c1, c = c1 := ⟨_, rfl⟩
                have HC1 : Hid ((if 0 < pos then c.look pos else c) = c1) := Lib.hid (by rw [if_neg hp0]; exact hc1)
                have HB1 : Hid (c1.last ≤ 32 ∧ -1 ≤ c1.wrong ∧ c1.wrong ≤ 32) := Lib.hid (by rw [← hc1]; exact ⟨hcl, hcw1, hcw2⟩)
                have HC5 : Hid (ChkAt W (n + 1) (n + 1 + 1) (n + 1 + 1 + 1) c1) := Lib.hid (by rw [← hc1]; exact HC2.out)
                clear hc1
                have hcb : c1.last ≤ 32 ∧ -1 ≤ c1.wrong ∧ c1.wrong ≤ 32 := HB1.out
                obtain ⟨hd1, hd2, hd3⟩ := hcb
                have v0 : W.cell? ⟨n + 1 + 1, 0, none⟩ = some (.int .i64 c1.wrong) := by simp [World.cell?, (HC5).out.wrong]
                by_cases hw0 : 0 ≤ c1.wrong
                · have hwb : decide (0 ≤ c1.wrong) = true := by simp [hw0]
                  have hce : checkEnd s = c1.look s.size := by
                    unfold checkEnd
                    rw [← HG.out, HGL.out c1 HC1.out (by omega)]
                  go_wp2_with fail
                  have hcz := Lib.hid (show checkOf s = if 0 ≤ (checkEnd s).wrong then (140, (checkEnd s).wrong) else (0, 0) by simp [checkOf, h0, h1, h2, h3])
                  refine (look_any W _ _ _ c1 (HC5).out s.size (by omega) (by omega) (by omega) (by omega)).mono ?_
                  rintro e W6 ⟨rfl, hC6, hk6⟩
                  have hR6 := (hk6.block n (Array.getElem?_eq_some_iff.1 (HR2).out).1 (by omega)).trans (HR2).out
                  have hk7 : Kept (fun _ => False) w W6 := (HK2).out.trans hk6 (fun i hi e => by have := HN.out; omega)
                  obtain ⟨hb1, hb2, -⟩ := ChkS.look_wrong c1 s.size 32 (by omega) (by omega) (by omega)
                  rw [← hce] at hC6 hb1 hb2
                  obtain ⟨CE, hCE⟩ : ∃ C, checkEnd s = C := ⟨_, rfl⟩
                  rw [hCE] at hC6 hb1 hb2 hcz
                  have y0 : W6.cell? ⟨n + 1 + 1, 0, none⟩ = some (.int .i64 CE.wrong) := by simp [World.cell?, hC6.wrong]
                  have y1 : W6.cell? ⟨n, 0, none⟩ = some (.int .i64 0) := by simp [World.cell?, hR6]
                  have y2 : W6.cell? ⟨n, 1, none⟩ = some (.int .i64 0) := by simp [World.cell?, hR6]
                  have y3 : W6.frozen? ⟨n, 0, none⟩ = false := by simp [World.frozen?, hR6]
                  have y4 : W6.frozen? ⟨n, 1, none⟩ = false := by simp [World.frozen?, hR6]
                  have HR6 := Lib.hid hR6
                  have HK7 := Lib.hid hk7
                  clear hR6 hk7 hk6 hC6 hCE
                  have HS : ∀ x y : Int, Kept (fun _ => False) w ((W6.setCell ⟨n, 0, none⟩ (.int .i64 x)).setCell ⟨n, 1, none⟩ (.int .i64 y)) := fun x y => (HK7.out.setCell (p := ⟨n, 0, none⟩) (fun h => by have := HN.out; simp at h; omega) _).setCell (p := ⟨n, 1, none⟩) (fun h => by have := HN.out; simp at h; omega) _
                  have HSH := Lib.hid HS
                  clear HS
                  by_cases hz : 0 ≤ CE.wrong
                  · have hzb : decide (0 ≤ CE.wrong) = true := by simp [hz]
                    go_wp2_with fail
                    refine spot_ret rfl rfl rfl ((heap_setCell_row (heap_setCell_row HR6.out _) _).trans rfl) (HSH.out _ _) ?_
                    rw [hcz.out, if_pos (by omega)]
                  · have hzb : decide (0 ≤ CE.wrong) = false := by simp [hz]
                    go_wp2_with fail
                    refine spot_ret rfl rfl rfl ((heap_setCell_row (heap_setCell_row HR6.out _) _).trans rfl) (HSH.out _ _) ?_
                    rw [hcz.out, if_neg (by omega)]
                · have hwb : decide (0 ≤ c1.wrong) = false := by simp [hw0]
                  have v1 : W.frozen? ⟨n + 1 + 1, 0, none⟩ = false := by simp [World.frozen?, (HC5).out.wrong]
                  have v2 : W.frozen? ⟨n + 1, 0, none⟩ = false := by simp [World.frozen?, (HC5).out.last]
                  have v3 : W.frozen? ⟨n + 1 + 1 + 1, 0, none⟩ = false := by simp [World.frozen?, (HC5).out.ahead]
                  have v4 : W.cell? ⟨n + 1, 0, none⟩ = some (.int .i64 c1.last) := by simp [World.cell?, (HC5).out.last]
                  have v5 : W.cell? ⟨n + 1 + 1 + 1, 0, none⟩ = some (.int .i32 c1.ahead) := by simp [World.cell?, (HC5).out.ahead]
                  have HGX := Lib.hid (HGN.out c1 HC1.out (by omega))
                  have HBAD : Hid (badRune r = true → ChkRel s w n g' (((W.setCell ⟨n + 1, 0, none⟩ (.int .i64 (pos : Int))).setCell ⟨n + 1 + 1 + 1, 0, none⟩ (.int .i32 (r : Int))).setCell ⟨n + 1 + 1, 0, none⟩ (.int .i64 (pos : Int)))) := Lib.hid (fun hb => by
                    obtain ⟨k1, k2⟩ := (HC5).out.seen pos r
                    obtain ⟨k3, k4⟩ := k1.ill pos
                    exact ChkRel.go HN.out (by rw [← HG.out, HGX.out, if_pos hb]) (by omega) hwn (by simp only []; omega) (by simp only []; omega) (by simp only []; omega) (HI2).out k3 (HR2).out (HK2).out (k2.trans k4 (fun _ _ e => e)))
                  have HGUD : Hid (badRune r = false → ChkRel s w n g' ((W.setCell ⟨n + 1, 0, none⟩ (.int .i64 (pos : Int))).setCell ⟨n + 1 + 1 + 1, 0, none⟩ (.int .i32 (r : Int)))) := Lib.hid (fun hb => by
                    obtain ⟨k1, k2⟩ := (HC5).out.seen pos r
                    exact ChkRel.go HN.out (by rw [← HG.out, HGX.out, if_neg (by rw [hb]; simp)]) (by omega) hwn (by simp only []; omega) (by simp only []; omega) (by simp only []; omega) (HI2).out k1 (HR2).out (HK2).out k2)
                  by_cases hr1 : r < 32
                  · have hr1b : decide ((r : Int) < 32) = true := by simp; omega
                    have hbd := Lib.hid (HBAD.out (by simp [badRune, hr1]))
                    clear hr1
                    go_wp2_with fail
                    go_roundg g'
                    case measure => omega
                    case rel => exact hbd.out
                  · have hr1b : decide ((r : Int) < 32) = false := by simp; omega
                    by_cases hr2 : r = 127
                    · have hbd := Lib.hid (HBAD.out (by simp [badRune, hr2]))
                      have hr2b : ((r : Int) == 127) = true := by simp; omega
                      clear hr1
                      subst hr2
                      go_wp2_with fail
                      go_roundg g'
                      case measure => omega
                      case rel => exact hbd.out
                    · have hr2b : ((r : Int) == 127) = false := by simp; omega
                      by_cases hr3 : r = 47
                      · have hbd := Lib.hid (HBAD.out (by simp [badRune, hr3]))
                        have hr3b : ((r : Int) == 47) = true := by simp; omega
                        clear hr1 hr2
                        subst hr3
                        go_wp2_with fail
                        go_roundg g'
                        case measure => omega
                        case rel => exact hbd.out
                      · have hbd := Lib.hid (HGUD.out (by simp [badRune, hr2, hr3]; omega))
                        have hr3b : ((r : Int) == 47) = false := by simp; omega
                        clear hr1 hr2 hr3
                        go_wp2_with fail
                        go_roundg g'
                        case measure => omega
                        case rel => exact hbd.out
            · have hnx : ∀ ty, (Instr.next (.pointer (some ⟨n + 1 + 1 + 1 + 1, 0, none⟩)) true ty).run Tryz.prog wr = .ok (.tuple #[.bool false]) wr := fun ty => by
                simp [Instr.next, getObj, Sem.run, HI.out, hlt]
              go_wp2_with fail
              have hce : checkEnd s = c.look s.size := by
                unfold checkEnd
                rw [← HG.out, chkGo_over hlt]
              have hcz := Lib.hid (show checkOf s = if 0 ≤ (checkEnd s).wrong then (140, (checkEnd s).wrong) else (0, 0) by simp [checkOf, h0, h1, h2, h3])
              refine (look_any wr _ _ _ c (HC).out s.size (by omega) (by omega) (by omega) (by omega)).mono ?_
              rintro e W6 ⟨rfl, hC6, hk6⟩
              have hR6 := (hk6.block n (Array.getElem?_eq_some_iff.1 (HR).out).1 (by omega)).trans (HR).out
              have hk7 : Kept (fun _ => False) w W6 := (HK).out.trans hk6 (fun i hi e => by have := HN.out; omega)
              obtain ⟨hb1, hb2, -⟩ := ChkS.look_wrong c s.size 32 (by omega) (by omega) (by omega)
              rw [← hce] at hC6 hb1 hb2
              obtain ⟨CE, hCE⟩ : ∃ C, checkEnd s = C := ⟨_, rfl⟩
              rw [hCE] at hC6 hb1 hb2 hcz
              have y0 : W6.cell? ⟨n + 1 + 1, 0, none⟩ = some (.int .i64 CE.wrong) := by simp [World.cell?, hC6.wrong]
              have y1 : W6.cell? ⟨n, 0, none⟩ = some (.int .i64 0) := by simp [World.cell?, hR6]
              have y2 : W6.cell? ⟨n, 1, none⟩ = some (.int .i64 0) := by simp [World.cell?, hR6]
              have y3 : W6.frozen? ⟨n, 0, none⟩ = false := by simp [World.frozen?, hR6]
              have y4 : W6.frozen? ⟨n, 1, none⟩ = false := by simp [World.frozen?, hR6]
              have HR6 := Lib.hid hR6
              have HK7 := Lib.hid hk7
              clear hR6 hk7 hk6 hC6 hCE
              have HS : ∀ x y : Int, Kept (fun _ => False) w ((W6.setCell ⟨n, 0, none⟩ (.int .i64 x)).setCell ⟨n, 1, none⟩ (.int .i64 y)) := fun x y => (HK7.out.setCell (p := ⟨n, 0, none⟩) (fun h => by have := HN.out; simp at h; omega) _).setCell (p := ⟨n, 1, none⟩) (fun h => by have := HN.out; simp at h; omega) _
              have HSH := Lib.hid HS
              clear HS
              by_cases hz : 0 ≤ CE.wrong
              · have hzb : decide (0 ≤ CE.wrong) = true := by simp [hz]
                go_wp2_with fail
                refine spot_ret rfl rfl rfl ((heap_setCell_row (heap_setCell_row HR6.out _) _).trans rfl) (HSH.out _ _) ?_
                rw [hcz.out, if_pos (by omega)]
              · have hzb : decide (0 ≤ CE.wrong) = false := by simp [hz]
                go_wp2_with fail
                refine spot_ret rfl rfl rfl ((heap_setCell_row (heap_setCell_row HR6.out _) _).trans rfl) (HSH.out _ _) ?_
                rw [hcz.out, if_neg (by omega)]
end Go.Proofs.YtjnhkepgoghogaaGreatDoor
