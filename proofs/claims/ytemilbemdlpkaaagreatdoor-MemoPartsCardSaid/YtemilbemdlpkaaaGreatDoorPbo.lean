/- memo: Add. -/
import Derived.Test.YtemilbemdlpkaaaGreatDoorPbn
import Derived.Test.YtemilbemdlpkaaaGreatDoorPae
namespace Go.Proofs.YtemilbemdlpkaaaGreatDoor
open Go.RowKit Go.ChangeMaps Go.MapKept
set_option linter.unusedSimpArgs false

section
variable {w w' : World} {a : MAd} {D D' : DM} {J : JM} {M : MP}
theorem MemR.die (h : MemR w a D J M) (d : Bool) : MemR (w.setCell ⟨a.p, 6, none⟩ (.bool d)) a D J { M with dead := d } := by
  obtain ⟨a1, a2, a3, a4⟩ := h.apart
  have hk : Kept (fun i => i = a.p) w (w.setCell ⟨a.p, 6, none⟩ (.bool d)) := (Kept.refl (fun i => i = a.p) w).setCell (p := ⟨a.p, 6, none⟩) (fun _ => rfl) _
  refine ⟨h.jour.kept hk (fun k hj (e : k = a.p) => by subst e; exact a1 hj), ⟨by rw [heap_setCell_row h.mem.cell]; simp, h.mem.known.kept hk (fun (e : a.km = a.p) => a4 e.symm), rowKept18 h.mem.row hk (fun g e (e2 : g = a.p) => a3 g (.inl e) (.inl e2)), fun x hx => OwnB.kept (h.mem.bytes x hx) (fun g e => hk.block g ((h.mem.bytes x hx).lt g e) (fun (e2 : g = a.p) => a3 g (.inr ⟨x, hx, e⟩) (.inl e2))), h.mem.runs, h.mem.small⟩, h.kmm, h.out⟩
end
theorem IsP.one (w : World) (x : Nat × Nat) (h : x.1 < 18446744073709551616 ∧ x.2 < 18446744073709551616) : IsP (w.alloc (.cells #[.int .u64 x.1, .int .u64 x.2] 68)) (.slice (some ⟨w.heap.size, 0, none⟩) 1 1) [x] := by
  refine ⟨some ⟨w.heap.size, 0, none⟩, 1, rfl, Nat.le_refl _, by simp [maxLen], fun p hp => by rw [List.mem_singleton.1 hp]; exact h, .inr ⟨w.heap.size, 0, rfl, by simp, fun i v hv => ?_⟩⟩
  rw [World.cell?_alloc_new]
  simp only [flatP, List.flatMap_cons, List.flatMap_nil, List.append_nil, encP] at hv
  match i, hv with
  | 0, hv => simpa using hv
  | 1, hv => simpa using hv
  | i + 2, hv => simp at hv

set_option maxRecDepth 100000 in
set_option maxHeartbeats 1000000 in
theorem madd_any {w : World} {a : MAd} {D : DM} {J : JM} {M : MP} (h : MemR w a D J M) (hcut : M.dead = false → J.cut = false) (B : Nat) (hT : TabB B w) (hBF : ∀ k, a.F k → B ≤ k) (hBw : B ≤ w.heap.size)
    (la : Option Addr) (lc : Nat) (l : List (Nat × Nat)) (hl : IsP w (.slice la l.length lc) l) (hll : l.length ≤ 100000)
    (hlast : M.last + 1 ≤ 4294967296) (hJ : J.all.length ≤ 4000000 ∧ J.size ≤ 4000000 ∧ J.recs.length ≤ 4000000) (hw : D.writes < 100000000000000) :
    Calls Tryz.prog 12 #[.pointer (some ⟨a.p, 0, none⟩), .slice la l.length lc] w fun e w' => e = .returned (.int .i64 (addM D J M l).1) ∧ WrEnd w a (addM D J M l) w' := by
  obtain ⟨c0, c1, c2, c3, c4, c5, c6, cz⟩ := h.mem.fields
  have hkn := h.mem.small.2.2.2.2
  obtain ⟨O, hO⟩ : ∃ O, addM D J M l = O := ⟨_, rfl⟩
  rw [hO]
  have HO := Lib.hid hO.symm
  unfold addM at HO
  have HMK := Lib.hid (makeP_any w la lc l hl (by omega))
  obtain ⟨⟨mb, me⟩, hq⟩ : ∃ q, makeOf l = q := ⟨_, rfl⟩
  rw [hq] at HMK HO
  simp only at HMK HO
  have HH := Lib.hid (And.intro h (And.intro hT (And.intro hl (And.intro trivial (And.intro hBF (And.intro hBw hcut))))))
  obtain ⟨n, hn⟩ : ∃ n, l.length = n := ⟨_, rfl⟩
  rw [hn] at HMK hll HH ⊢
  have HN := Lib.hid hn
  have hlen0 := fun ty => len_map (P := Tryz.prog) Tryz.underlying88 ty w h.mem.known.map
  have HWF : Hid (∀ O : Int × DM × JM × MP, O.2.1 = D → O.2.2.1 = J → O.2.2.2 = M → ∀ w', Kept (fun _ => False) w w' → WrEnd w a O w') := Lib.hid (fun O e1 e2 e3 w' hk => ⟨a, by rw [e1, e2, e3]; exact h.keptN hk, rfl, rfl, rfl, rfl, rfl, fun _ e => .inl e, fun _ e => .inl e, hk.mono (fun _ _ f => f.elim)⟩)
  clear h hT hl hBF hBw hO hq hn c0 c1 c2 c4 c5 cz hlen0
  cases hd : M.dead with
  | true =>
    rw [hd] at c6
    have HO2 : Hid (O = (6, D, J, M)) := Lib.hid (by rw [HO.out, if_pos hd])
    clear hd
    go_enter Tryz.func12, Tryz.ntmps12
    go_wp2_with fail
    go_ret
    rw [HO2.out]
    exact ⟨rfl, HWF.out _ rfl rfl rfl _ (Kept.refl _ _)⟩
  | false =>
    rw [hd] at c6
    have HD := Lib.hid hd
    have HO1 := HO.out
    rw [if_neg (by rw [hd]; simp)] at HO1
    have HO1 := Lib.hid HO1
    clear hd HO
    go_enter Tryz.func12, Tryz.ntmps12
    go_wp2_with fail
    refine HMK.out.mono ?_
    rintro e w1 ⟨bv, rfl, hf1⟩
    have hx3 := hf1.kept.cell c3 (fun f => f)
    have HK1 := Lib.hid hf1.kept
    by_cases hme : me = 0
    · have hmeb : (me != 0) = false := by simp [hme]
      have HO2 := HO1.out
      rw [if_neg (by simp [hme])] at HO2
      have HO2 := Lib.hid HO2
      clear hme HO1 hf1
      obtain ⟨R, hR⟩ : ∃ R, freshOf M.known [] l = R := ⟨_, rfl⟩
      rw [hR] at HO2
      have HR := Lib.hid hR.symm
      clear hR
      go_wp2_with fail
      go_loopg [7, 31] n (fun g fv iv wr => ∃ (k fl : Nat) (fa : Option Addr) (fc : Nat) (fr : List (Nat × Nat)), k + g = n ∧ iv = .int .i64 k ∧ fv = .slice fa fl fc ∧ fl ≤ k ∧ Hid (fr.length = fl) ∧ Hid (R = freshOf M.known fr (l.drop k)) ∧ Hid (OwnP w1.heap.size wr (.slice fa fl fc) fr) ∧ Hid (∀ p ∈ fr, getA p.1 M.known = none ∧ p.1 < 18446744073709551616 ∧ p.2 < 18446744073709551616) ∧ Hid (Kept (fun _ => False) w1 wr))
      case atStart => exact ⟨0, 0, none, 0, [], by omega, rfl, rfl, Nat.le_refl _, Lib.hid rfl, HR, Lib.hid (World.ownsRow_nil _ _ _ _), Lib.hid (fun p hp => by simp at hp), Lib.hid (Kept.refl _ _)⟩
      case round =>
        obtain ⟨k, fl, fa, fc, fr, hkg, rfl, rfl, hflk, HFL, HRK, HOF, HFB, HKr⟩ := hrel
        have hkw : Kept (fun _ => False) w wr := HK1.out.trans HKr.out (fun _ _ f => f)
        rcases Nat.eq_zero_or_pos gk with rfl | hpos
        · obtain rfl : n = k := by omega
          have hRf : R = some fr := by rw [HRK.out, List.drop_eq_nil_of_le (by rw [HN.out]; exact Nat.le_refl _)]; rfl
          have HO3 := HO2.out
          rw [hRf] at HO3
          simp only at HO3
          have HO3 := Lib.hid HO3
          have y3 := hkw.cell c3 (fun f => f)
          have hlen0 := fun ty => len_map (P := Tryz.prog) Tryz.underlying88 ty wr (HH.out.1.keptN hkw).mem.known.map
          rw [(HH.out.1.keptN hkw).mem.known.size] at hlen0
          have HKW := Lib.hid hkw
          clear hRf HRK HO2 hkw hx3
          by_cases hf0 : fl = 0
          · have hfe : fr = [] := List.length_eq_zero_iff.1 (by rw [HFL.out]; exact hf0)
            have HO4 : Hid (O = (0, D, J, M)) := Lib.hid (by rw [HO3.out, if_pos hfe])
            have hf0b : ((fl : Int) == 0) = true := by simp [hf0]
            clear hf0 hfe
            go_wp2_with fail
            go_ret
            rw [HO4.out]
            exact ⟨rfl, HWF.out _ rfl rfl rfl _ HKW.out⟩
          · have hfe : ¬ fr = [] := fun e => hf0 (by rw [← HFL.out, e]; rfl)
            have hf0b : ((fl : Int) == 0) = false := by simp; omega
            clear hf0
            by_cases hbig : 65536 < fl + M.known.length
            · have HO4 : Hid (O = (3, D, J, M)) := Lib.hid (by rw [HO3.out, if_neg hfe, if_pos (by rw [HFL.out]; exact hbig)])
              have hbb : (65536 : Int) < (fl : Int) + (M.known.length : Int) := by omega
              clear hfe hbig
              go_wp2_with fail
              go_ret
              rw [HO4.out]
              exact ⟨rfl, HWF.out _ rfl rfl rfl _ HKW.out⟩
            · have HO4 := HO3.out
              rw [if_neg hfe, if_neg (by rw [HFL.out]; exact hbig)] at HO4
              have HO4 := Lib.hid HO4
              have hbb : ¬ (65536 : Int) < (fl : Int) + (M.known.length : Int) := by omega
              have hFI : IsP wr (.slice fa fr.length fc) fr := by rw [HFL.out]; exact OwnP.isP HOF.out (fun p hp => (HFB.out p hp).2)
              have hWR := write_any (HH.out.1.keptN HKW.out) (HH.out.2.2.2.2.2.2 HD.out) B (HH.out.2.1.keptN HKW.out) HH.out.2.2.2.2.1 (Nat.le_trans HH.out.2.2.2.2.2.1 HKW.out.size) fa fc fr hFI (fun g e hF => by
                rw [HFL.out] at e
                have h1 := (World.ownsRow.lt HOF.out g e).1
                have h2 := HH.out.1.lt.1 g hF
                have h3 := HK1.out.size
                omega) (by rw [HFL.out]; omega) (fun p hp => (HFB.out p hp).1) hlast hJ hw
              rw [HFL.out] at hWR
              have HWR := Lib.hid hWR
              clear hWR hfe hbig hFI
              obtain ⟨⟨e1, D1, J1, M1⟩, hq1⟩ : ∃ q, writeM D J M fr = q := ⟨_, rfl⟩
              rw [hq1] at HWR HO4
              simp only at HWR HO4
              clear hq1
              go_wp2_with fail
              refine HWR.out.mono ?_
              rintro e w5 ⟨rfl, a1, r1, p1, p2, p3, p4, p5, r2, r3, r4⟩
              have hd6 := r1.mem.fields
              rw [p1] at hd6
              obtain ⟨-, -, -, -, -, -, d6, dz⟩ := hd6
              have dz6 := dz 6
              have HS := Lib.hid (And.intro r1 (And.intro (And.intro p1 (And.intro p2 (And.intro p3 (And.intro p4 p5)))) (And.intro r2 (And.intro r3 r4))))
              clear r1 p1 p2 p3 p4 p5 r2 r3 r4 dz
              go_wp2
              go_ret
              rw [HO4.out]
              obtain ⟨r1, ⟨p1, p2, p3, p4, p5⟩, r2, r3, r4⟩ := HS.out
              have hdie := r1.die (e1 != 0)
              rw [p1] at hdie
              have hkd : Kept (fun i => i = a.p) w5 (w5.setCell ⟨a.p, 6, none⟩ (.bool (e1 != 0))) := (Kept.refl (fun i => i = a.p) w5).setCell (p := ⟨a.p, 6, none⟩) (fun _ => rfl) _
              refine ⟨rfl, a1, hdie, p1, p2, p3, p4, p5, fun i hi => (r2 i hi).imp id (fun h => Nat.le_trans HKW.out.size h), fun i hi => (r3 i hi).imp id (fun h => Nat.le_trans HKW.out.size h), ((HKW.out.mono (fun _ _ f => f.elim)).trans r4 (fun _ _ e => e)).trans hkd (fun i _ (e : i = a.p) => .inl e)⟩
        · have hlt : k < n := by omega
          have hkl : k < l.length := by rw [HN.out]; exact hlt
          have hP := (show IsP w (.slice la n lc) l from HH.out.2.2.1).keptF hkw (fun _ _ f => f)
          have hbd : l[k].1 < 18446744073709551616 ∧ l[k].2 < 18446744073709551616 := by
            obtain ⟨_, _, _, _, _, h3, _⟩ := hP
            exact h3 _ (List.getElem_mem hkl)
          obtain ⟨g, o, rfl, hg, hc⟩ := hP.at (k := k) hkl
          obtain ⟨h0, h1⟩ := hc k hkl
          have hRK := HRK.out
          rw [List.drop_eq_getElem_cons hkl] at hRK
          generalize l[k] = x at h0 h1 hRK hbd
          obtain ⟨xf, xt⟩ := x
          simp only at h0 h1 hbd
          obtain ⟨wA, hwA, hkA, hsA, hA0, hA1⟩ := pair_new wr xf xt 68
          have hkwA : Kept (fun _ => False) w wA := hkw.trans hkA (fun _ _ f => f)
          have hA3 := hkwA.cell c3 (fun f => f)
          have hRA := HH.out.1.keptN hkwA
          have hlk : ∀ z, (Instr.lookup 88 (.map (some a.km)) (.int .u64 xf) true).run Tryz.prog (wA.drewN z) = .ok (.tuple #[.int .u64 ((getA xf M.known).getD 0 : Nat), .bool (getA xf M.known).isSome]) (wA.drewN z) := fun z => by
            have := HH.out.1.mem.known.look xf true (wA.drewN z) hRA.mem.known.map
            simpa using this
          have HKA := Lib.hid hkA
          have HRK2 := Lib.hid hRK
          clear hkA hsA hP hc hkw hkwA hRA HRK hx3 hRK hkl
          go_wp2_with fail
          obtain ⟨gv, hgv⟩ : ∃ q, getA xf M.known = q := ⟨_, rfl⟩
          rw [hgv] at hlk
          have HGV := Lib.hid hgv
          clear hgv
          cases gv with
          | none =>
            simp only [Option.getD_none, Option.isSome_none] at hlk
            go_quiet (fail)
            rename_i nq
            clear hlk
            obtain ⟨W5, hW5⟩ : ∃ W, wA.drewN nq = W := ⟨_, rfl⟩
            rw [hW5]
            have hk5 : Kept (fun _ => False) wA W5 := by rw [← hW5]; exact (Kept.refl _ _).drewN _
            have y0 := hk5.cell hA0 (fun f => f)
            have y1 := hk5.cell hA1 (fun f => f)
            clear hW5 hwA hA0 hA1 hA3
            obtain ⟨W6, hW6⟩ : ∃ X, W5.alloc (.cells #[.int .u64 xf, .int .u64 xt] 68) = X := ⟨_, rfl⟩
            have hk6 : Kept (fun _ => False) W5 W6 := by rw [← hW6]; exact (Kept.refl _ _).alloc _
            have hone : IsP W6 (.slice (some ⟨W5.heap.size, 0, none⟩) 1 1) [(xf, xt)] := by rw [← hW6]; exact IsP.one W5 (xf, xt) hbd
            have hk26 : Kept (fun _ => False) wr W6 := (HKA.out.trans hk5 (fun _ _ f => f)).trans hk6 (fun _ _ f => f)
            obtain ⟨v', w', hrun, ho', hkp, -⟩ := (HOF.out.kept hk26 (fun _ f => f.elim)).app (by have := HKr.out.size; have := hk26.size; omega) hone (by rw [HFL.out]; simp; omega)
            obtain ⟨oa, oc, hov, -, -⟩ := ho'.form
            rw [List.length_append, HFL.out] at hov
            simp only [List.length_cons, List.length_nil, Nat.zero_add] at hov
            subst hov
            have HFN : Hid (OwnP w1.heap.size w' (.slice oa (fl + 1) oc) (fr ++ [(xf, xt)]) ∧ Kept (fun _ => False) w1 w') := Lib.hid ⟨ho', (HKr.out.trans hk26 (fun _ _ f => f)).more hkp (fun i e => e)⟩
            have HRN : Hid (R = freshOf M.known (fr ++ [(xf, xt)]) (l.drop (k + 1))) := Lib.hid (by rw [HRK2.out, freshOf, HGV.out])
            clear hk5 hk6 hone hk26 ho' hkp
            go_wp2_with (at_builtin; refine wpList_append_run rfl (.tmp 56) (.tmp 58) #[22, 22] rfl _ _ _ _ rfl rfl hrun ?_)
            go_roundg (gk - 1)
            case measure => omega
            case rel => exact ⟨k + 1, fl + 1, oa, oc, fr ++ [(xf, xt)], by omega, by go_num, rfl, by omega, Lib.hid (by rw [List.length_append, HFL.out]; rfl), HRN, Lib.hid HFN.out.1, Lib.hid (fun p hp => by
              rcases List.mem_append.1 hp with hp | hp
              · exact HFB.out p hp
              · rw [List.mem_singleton.1 hp]; exact ⟨HGV.out, hbd⟩), Lib.hid HFN.out.2⟩
          | some t =>
            simp only [Option.getD_some, Option.isSome_some] at hlk
            by_cases htx : t = xt
            · have htb : ((t : Int) != (xt : Int)) = false := by simp [htx]
              have HRN : Hid (R = freshOf M.known fr (l.drop (k + 1))) := Lib.hid (by rw [HRK2.out, freshOf, HGV.out]; simp only [htx, if_true])
              clear htx
              go_quiet (fail)
              rename_i nq
              clear hlk
              obtain ⟨W5, hW5⟩ : ∃ W, wA.drewN nq = W := ⟨_, rfl⟩
              rw [hW5]
              have hk5 : Kept (fun _ => False) wA W5 := by rw [← hW5]; exact (Kept.refl _ _).drewN _
              have y1 := hk5.cell hA1 (fun f => f)
              have HFN := Lib.hid (HKr.out.trans (HKA.out.trans hk5 (fun _ _ f => f)) (fun _ _ f => f))
              have HFO : Hid (OwnP w1.heap.size W5 (.slice fa fl fc) fr) := Lib.hid (HOF.out.kept (HKA.out.trans hk5 (fun _ _ f => f)) (fun _ f => f.elim))
              clear hW5 hwA hA0 hA1 hA3 hk5
              go_wp2_with fail
              go_roundg (gk - 1)
              case measure => omega
              case rel => exact ⟨k + 1, fl, fa, fc, fr, by omega, by go_num, rfl, by omega, HFL, HRN, HFO, HFB, HFN⟩
            · have htb : ((t : Int) != (xt : Int)) = true := by simp; omega
              have HO4 : Hid (O = (5, D, J, M)) := Lib.hid (by
                have hRn : R = none := by rw [HRK2.out, freshOf, HGV.out]; simp only [htx, if_false]
                rw [HO2.out, hRn])
              clear htx
              go_quiet (fail)
              rename_i nq
              clear hlk
              obtain ⟨W5, hW5⟩ : ∃ W, wA.drewN nq = W := ⟨_, rfl⟩
              rw [hW5]
              have hk5 : Kept (fun _ => False) wA W5 := by rw [← hW5]; exact (Kept.refl _ _).drewN _
              have y1 := hk5.cell hA1 (fun f => f)
              have HFN := Lib.hid (HK1.out.trans (HKr.out.trans (HKA.out.trans hk5 (fun _ _ f => f)) (fun _ _ f => f)) (fun _ _ f => f))
              clear hW5 hwA hA0 hA1 hA3 hk5
              go_wp2_with fail
              go_ret
              rw [HO4.out]
              exact ⟨rfl, HWF.out _ rfl rfl rfl _ HFN.out⟩
    · have hmeb : (me != 0) = true := by simp [hme]
      have HO2 : Hid (O = (me, D, J, M)) := Lib.hid (by rw [HO1.out, if_pos hme])
      clear hme
      go_wp2
      go_ret
      rw [HO2.out]
      exact ⟨rfl, HWF.out _ rfl rfl rfl _ HK1.out⟩
end Go.Proofs.YtemilbemdlpkaaaGreatDoor

/- octet: a number that is read is below 2^64. -/
namespace Go.Proofs.YtemilbemdlpkaaaGreatDoor
theorem numFrom_lt : ∀ (l : List UInt8) (i x : Nat), i ≤ 9 → x < 2 ^ (7 * i) → (numFrom i x l).1 < 18446744073709551616
  | [], _, _, _, _ => by simp [numFrom]
  | c :: l, i, x, hi, hx => by
    unfold numFrom
    by_cases h1 : (i = 9 ∧ 1 < c.toNat) ∨ (0 < i ∧ c.toNat = 0)
    · rw [if_pos h1]; simp
    rw [if_neg h1]
    have hc : c.toNat % 128 < 128 := Nat.mod_lt _ (by omega)
    have hm : c.toNat % 128 * 2 ^ (7 * i) ≤ 127 * 2 ^ (7 * i) := Nat.mul_le_mul_right _ (by omega)
    have he : 2 ^ (7 * (i + 1)) = 128 * 2 ^ (7 * i) := by rw [Nat.mul_add, Nat.pow_add, Nat.mul_comm]
    by_cases h9 : i = 9
    · subst h9
      have hc1 : c.toNat ≤ 1 := by omega
      have hc2 : c.toNat % 128 = c.toNat := by omega
      rw [if_pos (by omega), hc2]
      simp only
      have : c.toNat * 2 ^ (7 * 9) ≤ 1 * 2 ^ (7 * 9) := Nat.mul_le_mul_right _ hc1
      omega
    · have hp : 2 ^ (7 * (i + 1)) ≤ 2 ^ 63 := Nat.pow_le_pow_right (by omega) (by omega)
      by_cases h2 : c.toNat < 128
      · rw [if_pos h2]
        simp only
        omega
      · rw [if_neg h2]
        exact numFrom_lt l (i + 1) _ (by omega) (by omega)
theorem RM.uint_lt (r : RM) : r.uint.1 < 18446744073709551616 := by
  unfold RM.uint
  split
  · split
    · exact numFrom_lt _ 0 0 (by omega) (by omega)
    · simp
  · simp
end Go.Proofs.YtemilbemdlpkaaaGreatDoor
