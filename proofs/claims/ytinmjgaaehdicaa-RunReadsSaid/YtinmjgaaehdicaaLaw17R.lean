/- espalierlaw17.RunReads. -/
import Derived.Test.YtinmjgaaehdicaaReadL
import Derived.Test.YtinmjgaaehdicaaSrc
import Derived.Test.YtinmjgaaehdicaaTold
namespace Go.Proofs.Ytinmjgaaehdicaa
open Go.RowKit

theorem find_ix (l : List (Nat × Nat)) (x : Nat) : (ixI x l = -1 ∧ findIn l x = (0, 4)) ∨ ∃ k, ∃ hk : k < l.length, ixI x l = (k : Int) ∧ findIn l x = (l[k].2, 0) := by
  unfold ixI findIn
  induction l with
  | nil => left; exact ⟨rfl, rfl⟩
  | cons p l ih =>
    unfold ixOf
    by_cases h : p.1 = x
    · right
      refine ⟨0, by simp, ?_, ?_⟩
      · rw [if_pos h]
      · rw [List.find?_cons_of_pos (by simpa using h)]
        rfl
    · rw [if_neg h, List.find?_cons_of_neg (by simpa using h)]
      rcases ih with ⟨h1, h2⟩ | ⟨k, hk, h1, h2⟩
      · left
        refine ⟨?_, h2⟩
        cases hO : ixOf x l with
        | none => rfl
        | some k => rw [hO] at h1; simp at h1
      · right
        refine ⟨k + 1, by simpa using hk, ?_, h2⟩
        cases hO : ixOf x l with
        | none => rw [hO] at h1; simp at h1
        | some j => rw [hO] at h1; simp at h1 ⊢; exact h1

set_option maxRecDepth 100000 in
set_option maxHeartbeats 900000 in
theorem reads_any (w : World) (a : Option Addr) (c : Nat) (bs : List UInt8) (h : IsB w (.slice a bs.length c) bs) (from_ to : Nat) :
    Calls Try.prog 8 #[.slice a bs.length c, .int .u64 from_, .int .u64 to] w fun e w' => e = .returned (.bool true) ∧ Kept (fun _ => False) w w' := by
  by_cases hbig : 5000 < bs.length
  · have hbig2 : (5000 : Int) < (bs.length : Int) := by omega
    go_enter Try.func8, Try.ntmps8
    go_wp2_with fail
    refine (wakes_any w).mono ?_
    rintro e w1 ⟨rfl, hk1⟩
    go_wp2
    go_ret
    exact ⟨rfl, hk1⟩
  have hbig2 : ¬ (5000 : Int) < (bs.length : Int) := by omega
  have hb5 : bs.length ≤ 5000 := by omega
  have HE := Lib.hid (fun W (hW : Kept (fun _ => False) w W) => each_any W a c bs (h.keptF hW (fun _ _ f => f)) (by omega))
  have hRR := fun W (hW : Kept (fun _ => False) w W) => rread_any W a c bs (h.keptF hW (fun _ _ f => f)) (by omega)
  have hCC := fun W (hW : Kept (fun _ => False) w W) => check_any W a c bs (h.keptF hW (fun _ _ f => f)) (by omega)
  have hFF := fun W (hW : Kept (fun _ => False) w W) => find_any W a c bs from_ (h.keptF hW (fun _ _ f => f)) (by omega)
  have hSS := fun W (hW : Kept (fun _ => False) w W) => sources_any W a c bs to (h.keptF hW (fun _ _ f => f)) (by omega)
  have hTT := fun W la lc l (hW : Kept (fun _ => False) w W) (hl : IsP W (.slice la l.length lc) l) => told_any W a c bs la lc l (h.keptF hW (fun _ _ f => f)) hl (by omega)
  obtain ⟨hsame, hsl⟩ := read_same bs
  have hpl := pairsOf_len bs
  have hst := pairsOf_rising bs
  unfold checkOf at hCC
  unfold findOf at hFF
  unfold eachOf at hSS
  have hTE : ∀ l, toldOf bs l = decide ((if (pairsOf bs).2 = true then (pairsOf bs).1 else []) = l) := fun l => rfl
  rw [hsame] at hTE
  simp only [hsame] at hCC hFF hSS hst
  obtain ⟨⟨l, ok⟩, hq⟩ : ∃ q, readR bs = q := ⟨_, rfl⟩
  rw [hq] at hTE hsl
  simp only [hq] at hRR hCC hFF hSS hst hsl
  clear hq hsame
  cases ok with
  | true =>
    have hlp := hsl rfl
    rw [← hlp] at hTE hpl
    simp only [← hlp, if_true] at hCC hFF hSS hst
    have hTO : toldOf bs l = true := by rw [hTE]; simp
    have HRR := Lib.hid hRR
    have HCC := Lib.hid hCC
    have hfix := find_ix l from_
    obtain ⟨⟨fx, fe⟩, hfe⟩ : ∃ q, findIn l from_ = q := ⟨_, rfl⟩
    rw [hfe] at hfix
    simp only [hfe] at hFF
    have HFX := Lib.hid hfix
    clear hfe hfix
    have HFF := Lib.hid hFF
    have HSS := Lib.hid hSS
    have HTT := Lib.hid hTT
    have HTO := Lib.hid hTO
    have hrs := (hst trivial).1.strict
    clear hRR hCC hFF hSS hTT hTO hTE hsl hlp hst
    have hnf : ∀ W x, (binOp BinOp.eql 67 (.func (.func 62) #[] #[.pointer (some ⟨x, 0, none⟩)]) .nilFunc).run Try.prog W = .ok (.bool false) W := fun W x => by kernel_rfl
    go_enter Try.func8, Try.ntmps8
    go_wp2_with fail
    refine (wakes_any w).mono ?_
    rintro e w1 ⟨rfl, hk1⟩
    go_wp2_with fail
    refine (HE.out w1 hk1).mono ?_
    rintro e w2 ⟨rfl, -, -, hk2⟩
    have hk2' := hk1.more hk2 (fun _ f => f.elim)
    go_wp2_with fail
    refine (HRR.out w2 hk2').mono ?_
    rintro e w3 ⟨v3, rfl, hI3, hk3⟩
    obtain ⟨la, lc, rfl, hlc, hlm, -⟩ := id hI3
    have hk3' := hk2'.more hk3 (fun _ f => f.elim)
    go_wp2_with fail
    refine (HCC.out w3 hk3').mono ?_
    rintro e w4 ⟨rfl, hk4⟩
    have hk4' := hk3'.more hk4 (fun _ f => f.elim)
    go_wp2_with fail
    refine (HFF.out w4 hk4').mono ?_
    rintro e w5 ⟨rfl, hk5⟩
    have hk5' := hk4'.more hk5 (fun _ f => f.elim)
    have hI5 := (hI3.kept hk4).kept hk5
    clear hnf
    go_wp2_with fail
    go_loopw [13, 50] (fun ov i wr => Kept (fun _ => False) w5 wr ∧ ∃ k : Nat, k ≤ l.length ∧ i = .int .i64 k ∧ OwnI w5.heap.size wr ov (srcOf to (l.take k))) (fun _ i _ => l.length - (intOf i).toNat)
    case atStart => exact ⟨Kept.refl _ _, 0, Nat.zero_le _, rfl, World.ownsRow_nil _ _ _ _⟩
    case round =>
      obtain ⟨hkr, k, hk, rfl, hown⟩ := hrel
      by_cases hlt : k < l.length
      · obtain ⟨g, o, rfl, hg, hc⟩ := hI5.at hlt
        have hT := List.take_succ_eq_append_getElem hlt
        obtain ⟨⟨f, t⟩, hy⟩ : ∃ y, l[k] = y := ⟨_, rfl⟩
        have hcc := hc k hlt
        rw [hy] at hcc hT
        obtain ⟨hd0, hd1⟩ := hcc
        have hc0 := hkr.cell hd0 (fun f => f)
        have hc1 := hkr.cell hd1 (fun f => f)
        simp only at hc0 hc1
        obtain ⟨wA, hwA, hkA, hszA, hA0, hA1⟩ := pair_new wr f t 75
        have hownA := hown.kept hkA (fun _ _ _ f => f)
        have hkrA := hkr.more hkA (fun _ f => f.elim)
        by_cases hto : t = to
        · have hS : Hid (srcOf to (l.take (k + 1)) = srcOf to (l.take k) ++ [f]) := Lib.hid (by rw [hT, hto, srcOf_yes])
          have hlS : (srcOf to (l.take k)).length + 1 ≤ 1000000000000 := by have := srcOf_length to (l.take k); rw [List.length_take] at this; omega
          clear hT hy hc hd0 hd1
          obtain ⟨wB, hwB⟩ : ∃ wB, wA.alloc (.cells #[.int .u64 f] 62) = wB := ⟨_, rfl⟩
          have hkB : Kept (fun _ => False) wA wB := by rw [← hwB]; exact (Kept.refl _ _).alloc _
          have hB0 : wB.cell? ⟨wA.heap.size, 0, none⟩ = some (.int .u64 f) := by rw [← hwB, World.cell?_alloc_new]; rfl
          have hownB := hownA.kept hkB (fun _ _ _ f => f)
          have hkrB := hkrA.more hkB (fun _ f => f.elim)
          obtain ⟨v', w', hrun, ho', hg', -⟩ := hownB.push (by have := hkrB.size; omega) ⟨wA.heap.size, 0, none⟩ f hB0 hlS
          have hk' : Kept (fun _ => False) w5 w' := hkrB.grown hg' (fun i e hi => by have := (World.ownsRow.lt hownB i e).1; omega)
          have HO := Lib.hid (And.intro ho' hk')
          clear ho' hg' hk' hownA hownB
          rw [hszA] at hrun
          subst hto
          go_wp2_with (at_builtin; refine wpList_append_run rfl (.tmp 61) (.tmp 64) #[73, 73] rfl _ _ _ _ rfl rfl hrun ?_)
          go_roundw
          case rel => exact ⟨HO.out.2, k + 1, hlt, by go_num, by rw [hS.out]; exact HO.out.1⟩
          case measure => simp [intOf]; omega
        · have hS : Hid (srcOf to (l.take (k + 1)) = srcOf to (l.take k)) := Lib.hid (by rw [hT, srcOf_no _ _ _ _ hto])
          have hto2 : ¬ ((t : Int) = (to : Int)) := by omega
          clear hT hy hc hd0 hd1
          go_wp2
          go_roundw
          case rel => exact ⟨hkrA, k + 1, hlt, by go_num, by rw [hS.out]; exact hownA⟩
          case measure => simp [intOf]; omega
      · rw [List.take_of_length_le (by omega)] at hown
        obtain ⟨wa, wc, rfl, hwc, -⟩ := hown.form
        have hk6' := hk5'.more hkr (fun _ f => f.elim)
        have hSW := HSS.out wr hk6'
        go_wp2_with fail
        refine hSW.mono ?_
        rintro e w7 ⟨v7, rfl, ho7, hk7⟩
        obtain ⟨ga, gc, rfl, hgc, -⟩ := ho7.form
        have hk7' := hk6'.more hk7 (fun _ f => f.elim)
        go_wp2_with fail
        refine (wakes_any w7).mono ?_
        rintro e w8 ⟨rfl, hk8⟩
        have hk8' := hk7'.more hk8 (fun _ f => f.elim)
        have how8 := (hown.kept hk7 (fun _ _ _ f => f)).kept hk8 (fun _ _ _ f => f)
        have hog8 := ho7.kept hk8 (fun _ _ _ f => f)
        have hI8 := ((hI5.kept hkr).kept hk7).kept hk8
        go_wp2_with fail
        go_loopw [81] (fun i wr => Kept (fun _ => False) w8 wr ∧ ∃ j : Nat, j ≤ (srcOf to l).length ∧ i = .int .i64 j) (fun i _ => (srcOf to l).length - (intOf i).toNat)
        case atStart => exact ⟨Kept.refl _ _, 0, Nat.zero_le _, rfl⟩
        case round =>
          obtain ⟨hkr3, j, hj, rfl⟩ := hrel
          by_cases hlt3 : j < (srcOf to l).length
          · obtain ⟨g1, rfl, -, hc1⟩ := how8.at hlt3
            obtain ⟨g2, rfl, -, hc2⟩ := hog8.at hlt3
            have e1 := hkr3.cell (hc1 j hlt3) (fun f => f)
            have e2 := hkr3.cell (hc2 j hlt3) (fun f => f)
            generalize (srcOf to l)[j] = z at e1 e2
            have hs5 : (srcOf to l).length ≤ 65536 := by have := srcOf_length to l; omega
            clear hc1 hc2
            go_wp2_with fail
            go_quiet (fail)
            go_wp2
            go_roundw
            case rel => exact ⟨hkr3.drewN _, j + 1, hlt3, by go_num⟩
            case measure => simp [intOf]; omega
          · have hk9' := hk8'.more hkr3 (fun _ f => f.elim)
            have hI9 := hI8.kept hkr3
            have hRF := Lib.hid (rfind_any wr la lc l from_ hI9 (by omega))
            go_wp2_with fail
            refine hRF.out.mono ?_
            rintro e w10 ⟨rfl, hk10⟩
            have hk10' := hk9'.more hk10 (fun _ f => f.elim)
            have hI10 := hI9.kept hk10
            have hTW := HTT.out w10 la lc l hk10' hI10
            rw [HTO.out] at hTW
            have HTW := Lib.hid hTW
            rcases HFX.out with ⟨hix, hff⟩ | ⟨q, hq, hix, hff⟩
            · cases hff
              rw [hix]
              clear hix HFX
              go_wp2_with fail
              refine HTW.out.mono ?_
              rintro e w11 ⟨rfl, hk11⟩
              go_wp2
              go_ret
              exact ⟨rfl, hk10'.more hk11 (fun _ f => f.elim)⟩
            · cases hff
              rw [hix]
              clear hix HFX
              obtain ⟨g3, o3, rfl, -, hc3⟩ := hI10.at hq
              have e4 := (hc3 q hq).2
              generalize l[q].2 = z at e4 ⊢
              clear hc3
              go_wp2_with fail
              refine HTW.out.mono ?_
              rintro e w11 ⟨rfl, hk11⟩
              go_wp2
              go_ret
              exact ⟨rfl, hk10'.more hk11 (fun _ f => f.elim)⟩
  | false =>
    simp only [Bool.false_eq_true, if_false] at hCC hFF hSS hTE
    have hTO : toldOf bs [] = true := by rw [hTE]; simp
    have HRR := Lib.hid hRR
    have HCC := Lib.hid hCC
    have HFF := Lib.hid hFF
    have HSS := Lib.hid hSS
    have HTT := Lib.hid hTT
    have HTO := Lib.hid hTO
    clear hRR hCC hFF hSS hTT hTO hTE hsl hst
    have hnf : ∀ W x, (binOp BinOp.eql 67 (.func (.func 62) #[] #[.pointer (some ⟨x, 0, none⟩)]) .nilFunc).run Try.prog W = .ok (.bool false) W := fun W x => by kernel_rfl
    go_enter Try.func8, Try.ntmps8
    go_wp2_with fail
    refine (wakes_any w).mono ?_
    rintro e w1 ⟨rfl, hk1⟩
    go_wp2_with fail
    refine (HE.out w1 hk1).mono ?_
    rintro e w2 ⟨rfl, -, -, hk2⟩
    have hk2' := hk1.more hk2 (fun _ f => f.elim)
    go_wp2_with fail
    refine (HRR.out w2 hk2').mono ?_
    rintro e w3 ⟨v3, rfl, hI3, hk3⟩
    obtain ⟨la, lc, rfl, hlc, hlm, -⟩ := id hI3
    have hk3' := hk2'.more hk3 (fun _ f => f.elim)
    go_wp2_with fail
    refine (HCC.out w3 hk3').mono ?_
    rintro e w4 ⟨rfl, hk4⟩
    have hk4' := hk3'.more hk4 (fun _ f => f.elim)
    go_wp2_with fail
    refine (HFF.out w4 hk4').mono ?_
    rintro e w5 ⟨rfl, hk5⟩
    have hk5' := hk4'.more hk5 (fun _ f => f.elim)
    have hI5 := (hI3.kept hk4).kept hk5
    have hll : l.length ≤ 9223372036854775807 := by unfold maxLen at hlm; omega
    clear hnf
    go_wp2_with fail
    go_loopw [13, 50] (fun ov i wr => Kept (fun _ => False) w5 wr ∧ ∃ k : Nat, k ≤ l.length ∧ i = .int .i64 k ∧ ov = .slice none 0 0) (fun _ i _ => l.length - (intOf i).toNat)
    case atStart => exact ⟨Kept.refl _ _, 0, Nat.zero_le _, rfl, rfl⟩
    case round =>
      obtain ⟨hkr, k, hk, rfl, rfl⟩ := hrel
      by_cases hlt : k < l.length
      · obtain ⟨g, o, rfl, hg, hc⟩ := hI5.at hlt
        obtain ⟨⟨f, t⟩, hy⟩ : ∃ y, l[k] = y := ⟨_, rfl⟩
        have hcc := hc k hlt
        rw [hy] at hcc
        obtain ⟨hd0, hd1⟩ := hcc
        have hc0 := hkr.cell hd0 (fun f => f)
        have hc1 := hkr.cell hd1 (fun f => f)
        simp only at hc0 hc1
        obtain ⟨wA, hwA, hkA, hszA, hA0, hA1⟩ := pair_new wr f t 75
        have hkrA := hkr.more hkA (fun _ f => f.elim)
        clear hy hc hd0 hd1
        go_wp2
        go_roundw
        case rel => exact ⟨hkrA, k + 1, hlt, by go_num, rfl⟩
        case measure => simp [intOf]; omega
      · have hk6' := hk5'.more hkr (fun _ f => f.elim)
        have hSW := HSS.out wr hk6'
        go_wp2_with fail
        refine hSW.mono ?_
        rintro e w7 ⟨v7, rfl, ho7, hk7⟩
        obtain ⟨ga, gc, rfl, hgc, -⟩ := ho7.form
        have hk7' := hk6'.more hk7 (fun _ f => f.elim)
        have hlz : (srcOf to []).length = 0 := rfl
        go_wp2_with fail
        refine (wakes_any w7).mono ?_
        rintro e w8 ⟨rfl, hk8⟩
        have hk8' := hk7'.more hk8 (fun _ f => f.elim)
        go_wp2_with fail
        go_loopw [81] (fun i wr => Kept (fun _ => False) w8 wr ∧ i = .int .i64 0) (fun _ _ => 0)
        case atStart => exact ⟨Kept.refl _ _, rfl⟩
        case round =>
          obtain ⟨hkr3, rfl⟩ := hrel
          have hk9' := hk8'.more hkr3 (fun _ f => f.elim)
          have hTW := HTT.out wr none 0 [] hk9' ⟨none, 0, rfl, Nat.le_refl _, by simp [maxLen], fun p hp => by simp at hp, .inl rfl⟩
          rw [HTO.out] at hTW
          have HTW := Lib.hid hTW
          clear hTW
          go_wp2_with fail
          refine HTW.out.mono ?_
          rintro e w11 ⟨rfl, hk11⟩
          go_wp2
          go_ret
          exact ⟨rfl, hk9'.more hk11 (fun _ f => f.elim)⟩
end Go.Proofs.Ytinmjgaaehdicaa
