/- name.Path; refs.may. -/
import Derived.Test.YtjnhkepgoghogaaGreatDoorNamC
namespace Go.Proofs.YtjnhkepgoghogaaGreatDoor
open Go.RowKit Go.ChangeMaps Go.MapKept
set_option linter.unusedSimpArgs false

/-- Path's way over the names: i the name's number, p where it stands. -/
def pathGo : Nat → Int → List ByteArray → Int × Int
  | _, _, [] => (0, 0)
  | i, p, s :: l => if i = 16 then (3, p) else if (checkOf s).1 ≠ 0 then ((checkOf s).1, p + (checkOf s).2) else pathGo (i + 1) (p + ((s.size : Int) + 1)) l
def pathOf (s : ByteArray) : Int × Int := if 200 < s.size then (3, 200) else pathGo 0 0 (partsOf s)
/-- What is wrong with a ref's name. -/
def mayOf (s : ByteArray) : Int := if (pathOf s).1 ≠ 0 then (pathOf s).1 else if s = ⟨#[]⟩ then 2 else 0

theorem chkGo_le (s : ByteArray) (N : Nat) (hN : s.size ≤ N) : ∀ (f pos : Nat) (c : ChkS), c.last ≤ N → c.wrong ≤ N → (chkGo s f pos c).last ≤ N ∧ (chkGo s f pos c).wrong ≤ N
  | 0, _, c, h1, h2 => ⟨h1, h2⟩
  | f + 1, pos, c, h1, h2 => by
    have hl : (if 0 < pos then c.look pos else c).last ≤ N ∧ (if 0 < pos then c.look pos else c).wrong ≤ N := by
      split
      · unfold ChkS.look
        split
        · exact ⟨h1, by simp only []; omega⟩
        · exact ⟨h1, h2⟩
      · exact ⟨h1, h2⟩
    by_cases hp : pos < s.size
    · by_cases hw : 0 ≤ (if 0 < pos then c.look pos else c).wrong
      · rw [chkGo_left hp rfl hw]; exact hl
      · rw [chkGo_next hp rfl hw]
        refine chkGo_le s N hN f _ _ (by simp only []; omega) ?_
        simp only []
        split <;> omega
    · rw [chkGo_over hp]; exact ⟨h1, h2⟩
theorem checkOf_le (s : ByteArray) : 0 ≤ (checkOf s).2 ∧ (checkOf s).2 ≤ 100 := by
  unfold checkOf
  split
  · exact ⟨by decide, by decide⟩
  · split
    · exact ⟨by decide, by decide⟩
    · split
      · rename_i h2 h3
        refine ⟨h3, ?_⟩
        obtain ⟨e1, e2⟩ := chkGo_le s 100 (by omega) s.size 0 ⟨0, -1, 32⟩ (by simp) (by simp)
        show (checkEnd s).wrong ≤ 100
        unfold checkEnd ChkS.look
        split
        · simp only []; omega
        · exact e2
      · exact ⟨by decide, by decide⟩
theorem splitB_le (sep : ByteArray) : ∀ (k : Nat) (s : ByteArray), ∀ x ∈ Lib.splitB sep 0 k s, x.size ≤ s.size
  | 0, s, x, hx => by
    rw [Lib.splitB_zero] at hx
    simp at hx
    subst hx
    exact Nat.le_refl _
  | k + 1, s, x, hx => by
    unfold Lib.splitB at hx
    split at hx
    · simp at hx; subst hx; exact Nat.le_refl _
    · rcases List.mem_cons.1 hx with rfl | hx
      · rw [ByteArray.size_extract]; omega
      · have := splitB_le sep k _ x hx
        rw [ByteArray.size_extract] at this
        omega
theorem parts_le (s : ByteArray) : ∀ x ∈ partsOf s, x.size ≤ s.size := by
  intro x hx
  unfold partsOf at hx
  split at hx
  · cases hx
  · exact splitB_le _ _ _ x hx

set_option maxRecDepth 100000 in
set_option maxHeartbeats 4000000 in
theorem path_any (s : ByteArray) (w : World) :
    Calls Tryz.prog 60 #[.string s] w fun e w' => e = .returned (.agg #[.int .i64 (pathOf s).1, .int .i64 (pathOf s).2]) ∧ Kept (fun _ => False) w w' := by
  by_cases h3 : 200 < s.size
  · have h3b : decide (200 < (s.size : Int)) = true := by simp; omega
    go_enter Tryz.func60, Tryz.ntmps60
    go_wp2_with fail
    go_step3
    go_wp2_with fail
    (try rw [Exit.noGoto_ret])
    refine spot_ret rfl rfl rfl (heap_alloc_new _ _) ((Kept.refl _ _).alloc _) ?_
    simp [pathOf, h3]
  · have h3b : decide (200 < (s.size : Int)) = false := by simp; omega
    have hpl := Lib.hid (parts_le s)
    have hpo : pathOf s = pathGo 0 0 (partsOf s) := if_neg h3
    obtain ⟨ps, hps⟩ : ∃ l, partsOf s = l := ⟨_, rfl⟩
    have HPL : Hid (∀ x ∈ ps, x.size ≤ 200) := Lib.hid (fun x hx => by rw [← hps] at hx; have := hpl.out x hx; omega)
    have hlen : (partsOf s).length ≤ 300 := by
      unfold partsOf
      split
      · simp
      · rw [pieces_len]
        have := Lib.countB_le strokeB (by decide) s.size s (Nat.le_refl _)
        omega
    have hpc := Lib.hid (parts_any s (by omega))
    rw [hps] at hpc hlen
    obtain ⟨PG, hPG⟩ : ∃ x, pathGo 0 0 ps = x := ⟨_, rfl⟩
    have HPG := Lib.hid hPG
    have hpg : pathOf s = PG := by rw [hpo, hps, hPG]
    rw [hpg]
    have HLEN := Lib.hid hlen
    clear hpl hpo hps hPG hpg hlen
    go_enter Tryz.func60, Tryz.ntmps60
    go_wp2_with fail
    go_step3
    go_wp2_with fail
    go_step3
    go_wp2_with fail
    obtain ⟨w1, hw1⟩ : ∃ W, w.alloc (.cells #[.int .i64 0, .int .i64 0] 77) = W := ⟨_, rfl⟩
    have hR1 : w1.heap[w.heap.size]? = some (.cells #[.int .i64 0, .int .i64 0] 77 (0, 0)) := by rw [← hw1]; exact heap_alloc_new _ _
    have hk1 : Kept (fun _ => False) w w1 := by rw [← hw1]; exact (Kept.refl _ _).alloc _
    rw [hw1]
    clear hw1
    refine (hpc.out w1).mono ?_
    rintro e w2 ⟨⟨a, cp, rfl, hrow⟩, hk2⟩
    have HR2 := Lib.hid ((hk2.block _ (Array.getElem?_eq_some_iff.1 hR1).1 (fun f => f)).trans hR1)
    have HK2 := Lib.hid (hk1.trans hk2 (fun _ _ f => f))
    have HROW := Lib.hid hrow
    obtain ⟨n, hn⟩ : ∃ n, ps.length = n := ⟨_, rfl⟩
    rw [hn]
    have HN := Lib.hid hn
    obtain ⟨R, hR⟩ : ∃ R, w.heap.size = R := ⟨_, rfl⟩
    rw [hR] at HR2 ⊢
    have HSET : Hid (∀ V, Kept (fun _ => False) w V → ∀ x y : Int, Kept (fun _ => False) w ((V.setCell ⟨R, 0, none⟩ (.int .i64 x)).setCell ⟨R, 1, none⟩ (.int .i64 y))) := Lib.hid (fun V hV x y => (hV.setCell (p := ⟨R, 0, none⟩) (fun h => by simp at h; omega) _).setCell (p := ⟨R, 1, none⟩) (fun h => by simp at h; omega) _)
    have hn63 : n ≤ 300 := by have := HLEN.out; omega
    clear hrow hn hR hk1 hk2 hR1
    go_wp2_with fail
    go_loopg [3, 14] n (fun gg s3 s14 wr => ∃ (k : Nat) (p : Int), k + gg = n ∧ k ≤ 16 ∧ s14 = .int .i64 k ∧ s3 = .int .i64 p ∧ 0 ≤ p ∧ p ≤ 201 * k ∧ Hid (pathGo k p (ps.drop k) = PG) ∧ Hid (Kept (fun _ => False) w2 wr))
    case atStart => exact ⟨0, 0, by omega, by omega, rfl, rfl, by omega, by omega, Lib.hid (by simpa using HPG.out), Lib.hid (Kept.refl _ _)⟩
    case round =>
      obtain ⟨k, p, hkg, hk16, rfl, rfl, hp1, hp2, HG, HK⟩ := hrel
      have HRW : Hid (wr.heap[R]? = some (.cells #[.int .i64 0, .int .i64 0] 77 (0, 0))) := Lib.hid ((HK.out.block _ (Array.getElem?_eq_some_iff.1 HR2.out).1 (fun f => f)).trans HR2.out)
      have HKW : Hid (Kept (fun _ => False) w wr) := Lib.hid (HK2.out.trans HK.out (fun _ _ f => f))
      by_cases hlt : k < n
      · have hkl : k < ps.length := by have := HN.out; omega
        obtain ⟨x, hx⟩ : ∃ x, ps[k] = x := ⟨_, rfl⟩
        have hd : ps.drop k = x :: ps.drop (k + 1) := by rw [List.drop_eq_getElem_cons hkl, hx]
        have HX : Hid (pathGo k p (x :: ps.drop (k + 1)) = PG) := Lib.hid (by rw [← hd]; exact HG.out)
        have hx200 : x.size ≤ 200 := HPL.out x (by rw [← hx]; exact List.getElem_mem hkl)
        rcases HROW.out with e | ⟨g, rfl, hg1, hg2⟩
        · rw [e] at hkl; simp at hkl
        have hc : wr.cell? ⟨g, k, none⟩ = some (.string x) := by
          have h4 := (HK.out.block _ (Array.getElem?_eq_some_iff.1 hg2).1 (fun f => f)).trans hg2
          simp [World.cell?, h4, hkl, hx]
        clear hg1 hg2 hd hx
        by_cases h16 : k = 16
        · subst h16
          have y1 : wr.cell? ⟨R, 0, none⟩ = some (.int .i64 0) := by simp [World.cell?, HRW.out]
          have y2 : wr.cell? ⟨R, 1, none⟩ = some (.int .i64 0) := by simp [World.cell?, HRW.out]
          have y3 : wr.frozen? ⟨R, 0, none⟩ = false := by simp [World.frozen?, HRW.out]
          have y4 : wr.frozen? ⟨R, 1, none⟩ = false := by simp [World.frozen?, HRW.out]
          go_wp2_with fail
          (try rw [Exit.noGoto_ret])
          refine spot_ret rfl rfl rfl ((heap_setCell_row (heap_setCell_row HRW.out _) _).trans rfl) (HSET.out wr HKW.out _ _) ?_
          rw [← HX.out]
          simp [pathGo]
        · have h16b : ((k : Int) == 16) = false := by simp; omega
          have hcl := checkOf_le x
          obtain ⟨C, hC⟩ : ∃ C, checkOf x = C := ⟨_, rfl⟩
          have hck := Lib.hid (check_any x (by unfold maxLen; omega) wr)
          have HNX : Hid (pathGo k p (x :: ps.drop (k + 1)) = if C.1 ≠ 0 then (C.1, p + C.2) else pathGo (k + 1) (p + ((x.size : Int) + 1)) (ps.drop (k + 1))) := Lib.hid (by rw [← hC]; simp only [pathGo, h16, if_false])
          rw [hC] at hck hcl
          obtain ⟨hcl1, hcl2⟩ := hcl
          obtain ⟨C1, C2⟩ := C
          simp only at hcl1 hcl2
          clear hC
          go_wp2_with fail
          refine hck.out.mono ?_
          rintro e w5 ⟨rfl, hk5⟩
          obtain ⟨w6, hw6⟩ : ∃ W, w5.alloc (.cells #[.int .i64 C1, .int .i64 C2] 77) = W := ⟨_, rfl⟩
          have hR6 : w6.heap[R]? = some (.cells #[.int .i64 0, .int .i64 0] 77 (0, 0)) := by rw [← hw6]; exact alloc_old ((hk5.block _ (Array.getElem?_eq_some_iff.1 HRW.out).1 (fun f => f)).trans HRW.out)
          have hS6 : w6.heap[w5.heap.size]? = some (.cells #[.int .i64 C1, .int .i64 C2] 77 (0, 0)) := by rw [← hw6]; exact heap_alloc_new _ _
          have hk6 : Kept (fun _ => False) w5 w6 := by rw [← hw6]; exact (Kept.refl _ _).alloc _
          have HK6 := Lib.hid (HKW.out.trans (hk5.trans hk6 (fun _ _ f => f)) (fun _ _ f => f))
          have HKR6 := Lib.hid (HK.out.trans (hk5.trans hk6 (fun _ _ f => f)) (fun _ _ f => f))
          have s0 : w6.cell? ⟨w5.heap.size, 0, none⟩ = some (.int .i64 C1) := by simp [World.cell?, hS6]
          have s1 : w6.cell? ⟨w5.heap.size, 1, none⟩ = some (.int .i64 C2) := by simp [World.cell?, hS6]
          have y1 : w6.cell? ⟨R, 0, none⟩ = some (.int .i64 0) := by simp [World.cell?, hR6]
          have y2 : w6.cell? ⟨R, 1, none⟩ = some (.int .i64 0) := by simp [World.cell?, hR6]
          have y3 : w6.frozen? ⟨R, 0, none⟩ = false := by simp [World.frozen?, hR6]
          have y4 : w6.frozen? ⟨R, 1, none⟩ = false := by simp [World.frozen?, hR6]
          have HR6 := Lib.hid hR6
          clear hR6 hS6 hk5 hk6 hck hc
          by_cases hz : C1 = 0
          · subst hz
            go_wp2_with fail
            go_roundg (gk - 1)
            case measure => omega
            case rel => exact ⟨k + 1, p + ((x.size : Int) + 1), by omega, by omega, by go_num, by go_num, by omega, by omega, Lib.hid (by rw [← HX.out, HNX.out]; simp), HKR6⟩
          · have hzb : (C1 == 0) = false := by simp [hz]
            go_wp2_with fail
            (try rw [Exit.noGoto_ret])
            refine spot_ret rfl rfl rfl ((heap_setCell_row (heap_setCell_row HR6.out _) _).trans rfl) (HSET.out w6 HK6.out _ _) ?_
            rw [← HX.out, HNX.out]
            simp [hz]
      · have y1 : wr.cell? ⟨R, 0, none⟩ = some (.int .i64 0) := by simp [World.cell?, HRW.out]
        have y2 : wr.cell? ⟨R, 1, none⟩ = some (.int .i64 0) := by simp [World.cell?, HRW.out]
        have y3 : wr.frozen? ⟨R, 0, none⟩ = false := by simp [World.frozen?, HRW.out]
        have y4 : wr.frozen? ⟨R, 1, none⟩ = false := by simp [World.frozen?, HRW.out]
        have hpe : PG = (0, 0) := by
          rw [← HG.out, List.drop_eq_nil_of_le (by have := HN.out; omega)]
          rfl
        go_wp2_with fail
        (try rw [Exit.noGoto_ret])
        refine spot_ret rfl rfl rfl ((heap_setCell_row (heap_setCell_row HRW.out _) _).trans rfl) (HSET.out wr HKW.out _ _) hpe
end Go.Proofs.YtjnhkepgoghogaaGreatDoor

/- refs.may. -/
namespace Go.Proofs.YtjnhkepgoghogaaGreatDoor
open Go.RowKit Go.ChangeMaps Go.MapKept
set_option linter.unusedSimpArgs false
set_option maxRecDepth 100000 in
set_option maxHeartbeats 2000000 in
theorem refsMay_any (s : ByteArray) (w : World) :
    Calls Tryz.prog 23 #[.string s] w fun e w' => e = .returned (.int .i64 (mayOf s)) ∧ Kept (fun _ => False) w w' := by
  have hpa := Lib.hid (path_any s w)
  obtain ⟨C1, C2, hC⟩ : ∃ C1 C2, pathOf s = (C1, C2) := ⟨_, _, rfl⟩
  rw [hC] at hpa
  have hm : mayOf s = if C1 ≠ 0 then C1 else if s = ⟨#[]⟩ then 2 else 0 := by unfold mayOf; rw [hC]
  rw [hm]
  clear hm
  by_cases hz : C1 = 0
  · rw [if_neg (by simp [hz])]
    by_cases h0 : s = ⟨#[]⟩
    · rw [if_pos h0]
      clear hC
      subst h0
      go_enter Tryz.func23, Tryz.ntmps23
      go_wp2_with fail
      refine hpa.out.mono ?_
      rintro e w1 ⟨rfl, hk⟩
      subst hz
      have HK := Lib.hid hk
      clear hk
      go_wp2_with fail
      go_ret
      exact ⟨rfl, HK.out.alloc _⟩
    · rw [if_neg h0]
      have h0b : s.toList.isEmpty = false := by
        have h := (Lib.bytes_beq_false_iff s ⟨#[]⟩).2 h0
        rw [show ByteArray.toList ⟨#[]⟩ = [] from by kernel_rfl] at h
        cases hl : s.toList <;> simp_all
      go_enter Tryz.func23, Tryz.ntmps23
      go_wp2_with fail
      refine hpa.out.mono ?_
      rintro e w1 ⟨rfl, hk⟩
      subst hz
      have HK := Lib.hid hk
      clear hk
      go_wp2_with fail
      go_ret
      exact ⟨rfl, HK.out.alloc _⟩
  · rw [if_pos hz]
    have hzb : (C1 == 0) = false := by simp [hz]
    go_enter Tryz.func23, Tryz.ntmps23
    go_wp2_with fail
    refine hpa.out.mono ?_
    rintro e w1 ⟨rfl, hk⟩
    have HK := Lib.hid hk
    clear hk
    go_wp2_with fail
    go_ret
    exact ⟨rfl, HK.out.alloc _⟩
end Go.Proofs.YtjnhkepgoghogaaGreatDoor
