/- memo: run files are removed, by rising number. -/
import Derived.Shelf.SlSortCmp.NoneTotal
import Derived.Test.YtemilbemdlpkaaaGreatDoorPai
import Derived.Test.YtemilbemdlpkaaaGreatDoorPbi
namespace Go.Proofs.YtemilbemdlpkaaaGreatDoor
open Go.RowKit Go.ChangeMaps Go.MapKept Go.Shelf Go.Sort
set_option linter.unusedSimpArgs false

/-- Numbers that are sorted. -/
abbrev N62 := Fin 4611686018427387904
def encZ (x : N62) : Value := .int .i64 (x.val : Int)
def cmpZ (x y : N62) : Int := (x.val : Int) - (y.val : Int)
theorem ltZ (x y : N62) : ltOf cmpZ x y = decide (x.val < y.val) := by
  unfold ltOf cmpZ
  by_cases h : x.val < y.val
  · have : ((x.val : Int) - (y.val : Int)) < 0 := by omega
    simp [h, this]
  · have : ¬ ((x.val : Int) - (y.val : Int)) < 0 := by omega
    simp [h, this]
theorem swoZ : Sort.SWO (ltOf cmpZ) where
  irrefl x := by rw [ltZ]; simp
  trans x y z h1 h2 := by rw [ltZ] at *; simp at *; omega
  ntrans x y z h1 h2 := by rw [ltZ] at *; simp at *; omega
def toZ (l : List Nat) : List N62 := l.map fun n => ⟨n % 4611686018427387904, Nat.mod_lt _ (by omega)⟩
theorem toZ_val {l : List Nat} (h : ∀ x ∈ l, x < 4611686018427387904) : (toZ l).map (·.val) = l := by
  unfold toZ
  rw [List.map_map]
  conv => rhs; rw [← List.map_id l]
  exact List.map_congr_left fun x hx => Nat.mod_eq_of_lt (h x hx)
theorem toZ_enc {l : List Nat} (h : ∀ x ∈ l, x < 4611686018427387904) : (toZ l).map encZ = intsV l := by
  conv => rhs; rw [← toZ_val h]
  unfold intsV
  rw [List.map_map]
  rfl
theorem remove1_any (x y : N62) (W : World) : Calls Tryz.prog 99 #[.int .i64 (x.val : Int), .int .i64 (y.val : Int)] W fun e w' => e = .returned (.int .i64 (cmpZ x y)) ∧ ∃ q os', w' = Sort.grow (W.drewN q) os' := by
  have hx := x.isLt
  have hy := y.isLt
  unfold cmpZ
  generalize x.val = a at *
  generalize y.val = b at *
  go_enter Tryz.func99, Tryz.ntmps99
  go_wp2_with fail
  go_ret
  exact ⟨rfl, 0, #[], by rw [Sort.grow_empty]; rfl⟩
set_option maxRecDepth 100000 in
/-- slices.SortFunc of whole numbers that a slice owns: they rise. -/
theorem sortZ_any (b : Nat) (w : World) (v : Value) (l : List Nat) (h : OwnZ b w v l) (hb : ∀ x ∈ l, x < 4611686018427387904) (hl : l.length ≤ 1000000) :
    Calls Tryz.prog 98 #[v, .func (.func 99) #[] #[]] w fun e w' => e = .returned (.tuple #[]) ∧ OwnZ b w' v (upL l) ∧ Kept (fun k => v.ownBlock = some k) w w' := by
  rcases h.2 with ⟨rfl, h0⟩ | ⟨g, cap, cur, rfl, hbg, hg, hn, hm, hs, ht⟩
  · refine (AnyF.slices_SortFunc_none { Tryz.sortI with } none 0 _ w).mono ?_
    rintro e w' ⟨rfl, rfl⟩
    obtain rfl : l = [] := List.length_eq_zero_iff.1 h0
    exact ⟨rfl, by simpa [upL] using h, Kept.refl _ _⟩
  · have e1 : (toZ l).length = l.length := by unfold toZ; exact List.length_map _
    have ht' : cur.toList.take (toZ l).length = (toZ l).map encZ := by
      rw [e1, toZ_enc hb]; rw [Nat.mul_one] at ht; exact ht
    have eg : ∀ args w, (callFunc 99 args).run Tryz.prog w = .ok (.enter 99 args) w := enters_of Tryz.func99 (by kernel_rfl) rfl
    have H := Any.slices_SortFunc_total Tryz.sortI encZ (fun _ => rfl) cmpZ swoZ 99 #[] g 0 cap (toZ l).toArray w eg (fun _ _ _ _ x y => remove1_any x y _) (holds_of_blockE hg ht') (Array.getElem?_eq_some_iff.1 hg).1 (by simp [e1]; omega) (fun x y h1 h2 => by
      rw [ltZ] at h1 h2
      simp at h1 h2
      exact Fin.ext (by omega))
    have e2 : ((toZ l).mergeSort fun x y => !(ltOf cmpZ) y x).map (·.val) = upL l := by
      unfold upL
      rw [List.map_mergeSort (s := fun x y : Nat => decide (x ≤ y)), toZ_val hb]
      intro a _ c _
      rw [ltZ]
      by_cases h : a.val ≤ c.val
      · have : ¬ c.val < a.val := by omega
        simp [h, this]
      · have : c.val < a.val := by omega
        simp [h, this]
    simp only [List.size_toArray, e1] at H
    refine H.mono ?_
    rintro e w' ⟨rfl, n, os, rfl⟩
    refine ⟨rfl, ?_, Kept.grown (F := fun k => (Value.slice (some ⟨g, 0, none⟩) l.length cap).ownBlock = some k) (Kept.refl _ _) (grownBy_sortedE _) (fun k hk _ => by cases hk; rfl)⟩
    have h9 := ownsRow_sortedE (enc := encZ) (n := n) (os := os) (ss := toZ l) (ts := (toZ l).mergeSort fun x y => !(ltOf cmpZ) y x) (by rw [List.length_mergeSort]) hbg hg (by rw [e1]; exact hn) hm hs
    rw [e1] at h9
    have e3 : ((toZ l).mergeSort fun x y => !(ltOf cmpZ) y x).map encZ = intsV (upL l) := by
      rw [← e2]
      unfold intsV
      rw [List.map_map]
      rfl
    rw [e3] at h9
    unfold OwnZ
    rw [upL_length]
    exact h9
end Go.Proofs.YtemilbemdlpkaaaGreatDoor

/- memo: remove. -/
namespace Go.Proofs.YtemilbemdlpkaaaGreatDoor
open Go.RowKit Go.ChangeMaps Go.MapKept
set_option linter.unusedSimpArgs false

/-- What remove's walk needs of a memo. -/
structure MemD (w : World) (p b : Nat) (file : ByteArray) : Prop where
  c0 : w.cell? ⟨p, 0, none⟩ = some (.pointer (some ⟨b, 0, none⟩))
  c2 : w.cell? ⟨p, 2, none⟩ = some (.string file)
theorem MemD.kept {w w' : World} {p b : Nat} {file : ByteArray} (h : MemD w p b file) {F : Nat → Prop} (hk : Kept F w w') (hp : ¬ F p) : MemD w' p b file := ⟨hk.cell h.c0 hp, hk.cell h.c2 hp⟩
theorem removeM_cons (D : DM) (file : ByteArray) (n : Nat) (ns : List Nat) : removeM D file (n :: ns) = if (D.remove (runN file n)).1 ≠ 0 then D.remove (runN file n) else removeM (D.remove (runN file n)).2 file ns := rfl
theorem DM.remove_writes (D : DM) (s : ByteArray) : (D.remove s).2.writes ≤ D.writes + 1 := by
  unfold DM.remove
  split
  · simp only []; omega
  · cases h : D.raw with
    | none => simp only []; omega
    | some D' =>
      simp only [DM.del]
      unfold DM.raw at h
      split at h
      · split at h
        · cases h
        · cases h; simp
      · cases h; simp
set_option maxRecDepth 100000 in
set_option maxHeartbeats 2000000 in
theorem mremove_any {w : World} {p b m : Nat} {es : Array MapEntry} {clock : Nat} {D : DM} {file : ByteArray} (B b0 : Nat) (v : Value) (ns : List Nat) (hM : MemD w p b file) (hd : DiskAt w b m es clock D) (hp : ¬ diskF b m es p)
    (hv : OwnZ b0 w v ns) (hns : ∀ x ∈ ns, x ≤ 4611686018427387) (hl : ns.length ≤ 1000) (hsep : ∀ g, v.ownBlock = some g → ¬ diskF b m es g ∧ g ≠ p) (hT : TabB B w) (hB : ∀ k, diskF b m es k → B ≤ k) (hvB : ∀ g, v.ownBlock = some g → B ≤ g) (hBw : B ≤ w.heap.size) (hfs : file.size ≤ 100) (hw : D.writes < 1000000000000000) :
    Calls Tryz.prog 47 #[.pointer (some ⟨p, 0, none⟩), v] w fun e w' => e = .returned (.int .i64 (removeM D file (upL ns)).1) ∧ ∃ es' clock', DiskAt w' b m es' clock' (removeM D file (upL ns)).2 ∧ (∀ k, diskF b m es' k → diskF b m es k ∨ w.heap.size ≤ k) ∧ Kept (fun k => diskF b m es k ∨ v.ownBlock = some k) w w' := by
  have HS := Lib.hid (sortZ_any b0 w v ns hv (fun x hx => by have := hns x hx; omega) (by omega))
  have hUm : ∀ x ∈ upL ns, x ≤ 4611686018427387 := fun x hx => hns x ((List.mergeSort_perm _ _).mem_iff.1 hx)
  have hUl : (upL ns).length ≤ 1000 := by rw [upL_length]; exact hl
  obtain ⟨va, vc, rfl⟩ : ∃ va vc, v = .slice va (upL ns).length vc := by
    obtain ⟨a, c, h1, -⟩ := hv.form
    exact ⟨a, c, by rw [h1, upL_length]⟩
  have HX := Lib.hid (And.intro hM (And.intro hd (And.intro hp (And.intro hsep (And.intro hT (And.intro hB (And.intro hvB (And.intro hBw (And.intro hfs hw)))))))))
  generalize upL ns = us at *
  clear hM hd hp hsep hT hB hvB hBw hfs hw hv hns hl
  obtain ⟨R, hR⟩ : ∃ R, removeM D file us = R := ⟨_, rfl⟩
  rw [hR]
  have HR := Lib.hid hR
  clear hR
  go_enter Tryz.func47, Tryz.ntmps47
  go_wp2_with fail
  refine HS.out.mono ?_
  rintro e w2 ⟨rfl, hv2, hk2⟩
  have HV2 := Lib.hid hv2
  have HK2 := Lib.hid hk2
  clear hv2 hk2 HS
  go_wp2_with fail
  go_loopw [12] (fun i wr => ∃ (k : Nat) (D1 : DM) (es1 : Array MapEntry) (clk1 : Nat), k ≤ us.length ∧ i = .int .i64 k ∧ Hid (R = removeM D1 file (us.drop k)) ∧ Hid (DiskAt wr b m es1 clk1 D1 ∧ (∀ j, diskF b m es1 j → diskF b m es j ∨ w2.heap.size ≤ j)) ∧ Hid (Kept (diskF b m es) w2 wr) ∧ Hid (D1.writes ≤ D.writes + k)) (fun i _ => us.length - (intOf i).toNat)
  case atStart =>
    obtain ⟨hM, hd, hp, hsep, hT, hB, hvB, hBw, hfs, hw⟩ := HX.out
    exact ⟨0, D, es, clock, Nat.zero_le _, rfl, Lib.hid HR.out.symm, Lib.hid ⟨hd.kept HK2.out (fun k hk e => (hsep k e).1 hk), fun j hj => .inl hj⟩, Lib.hid (Kept.refl _ _), Lib.hid (by omega)⟩
  case round =>
    obtain ⟨k, D1, es1, clk1, hk, rfl, HRk, HD1, HKr, HW1⟩ := hrel
    by_cases hlt : k < us.length
    · have hz : Hid (OwnZ b0 wr (.slice va us.length vc) us) := Lib.hid (HV2.out.kept HKr.out (fun g _ e hf => (HX.out.2.2.2.1 g e).1 hf))
      obtain ⟨g, rfl, hg, -, hcs⟩ := hz.out.at hlt
      have hc := hcs k hlt
      have hxm := hUm us[k] (List.getElem_mem hlt)
      rw [List.drop_eq_getElem_cons hlt, removeM_cons] at HRk
      obtain ⟨x, hx⟩ : ∃ x, us[k] = x := ⟨_, rfl⟩
      rw [hx] at hc hxm HRk
      clear hcs hx hz
      have hkall : Kept (fun j => diskF b m es j ∨ (Value.slice (some ⟨g, 0, none⟩) us.length vc).ownBlock = some j) w wr := (HK2.out.mono (fun _ _ e => .inr e)).trans HKr.out (fun _ _ e => .inl e)
      have hMr : MemD wr p b file := HX.out.1.kept hkall (by
        rintro (e | e)
        · exact HX.out.2.2.1 e
        · exact (HX.out.2.2.2.1 p e).2 rfl)
      have hTr : TabB B wr := HX.out.2.2.2.2.1.kept hkall (by
        rintro j (e | e)
        · exact HX.out.2.2.2.2.2.1 j e
        · exact HX.out.2.2.2.2.2.2.1 j e)
      have p0 := hMr.c0
      have HNM : Hid (∀ W, Kept (fun _ => False) wr W → Calls Tryz.prog 94 #[.pointer (some ⟨p, 0, none⟩), .int .i64 x] W fun e w' => e = .returned (.string (runN file x)) ∧ Kept (fun _ => False) W w') := Lib.hid (fun W hW => runName_any B W p file x (by omega) (hW.cell hMr.c2 (fun f => f)) HX.out.2.2.2.2.2.2.2.2.1 (hTr.keptN hW))
      have HRM : Hid (∀ W, Kept (fun _ => False) wr W → Calls Tryz.prog 100 #[.pointer (some ⟨b, 0, none⟩), .string (runN file x)] W (EndD W b m es1 (D1.remove (runN file x)).1 (D1.remove (runN file x)).2)) := Lib.hid (fun W hW => remove_any (HD1.out.1.kept hW (fun _ _ f => f)) _ (by have := HW1.out; have := HX.out.2.2.2.2.2.2.2.2.2; omega))
      have HWS := Lib.hid (DM.remove_writes D1 (runN file x))
      clear hMr hTr
      generalize runN file x = nm at *
      obtain ⟨⟨er, D2⟩, hq⟩ : ∃ q, D1.remove nm = q := ⟨_, rfl⟩
      rw [hq] at HRM HRk HWS
      simp only at HRM HRk HWS
      clear hq
      go_wp2_with fail
      go_region_held (fun w' => w'.cell? ⟨p, 0, none⟩ = some (.pointer (some ⟨b, 0, none⟩)))
        (first | exact p0 | exact hS5 | exact hS6)
        (first | (go_at_call 94; refine (HNM.out _ (drew_kept _)).mono ?_; rintro e' w5 ⟨rfl, hk5⟩; have hS5 := hk5.cell p0 (fun f => f)) | (go_at_call 100; refine (HRM.out w5 ((drew_kept wr).trans hk5 (fun _ _ f => f))).mono ?_; rintro e' w6 ⟨rfl, es6, clk6, hA6⟩; have hS6 := hA6.kept.cell hS5 (by
          intro hf
          rcases HD1.out.2 p hf with h1 | h1
          · exact HX.out.2.2.1 h1
          · have hpw := World.block_lt_of_cell? w _ HX.out.1.c0
            have := HK2.out.size
            simp only at hpw
            omega)))
      have hk6 : Kept (diskF b m es1) wr w6 := (((drew_kept wr).trans hk5 (fun _ _ f => f)).mono (fun _ _ f => f.elim)).trans hA6.kept (fun _ _ f => f)
      have HA6 := Lib.hid hA6
      have HK6 := Lib.hid hk6
      have hs5 : wr.heap.size ≤ w5.heap.size := hk5.size
      have HS5 := Lib.hid hs5
      have HF6 : Hid (∀ j, diskF b m es6 j → diskF b m es j ∨ w2.heap.size ≤ j) := Lib.hid (fun j hj => by
        rcases hA6.foot j hj with h1 | h1
        · exact HD1.out.2 j h1
        · exact .inr (Nat.le_trans HKr.out.size (Nat.le_trans hs5 h1)))
      have HKD : Hid (Kept (diskF b m es) w2 w6) := Lib.hid (HKr.out.trans hk6 (fun i hi hf => by
        rcases HD1.out.2 i hf with h1 | h1
        · exact h1
        · omega))
      clear hA6 hk6 hk5 hS5 hS6 hkall hs5 p0 HNM HRM
      by_cases he : er = 0
      · have he0 : (er != 0) = false := by simp [he]
        have HRN : Hid (R = removeM D2 file (us.drop (k + 1))) := Lib.hid (by rw [HRk.out, if_neg (by simp [he])])
        clear he
        go_wp2
        go_roundw
        case rel => exact ⟨k + 1, D2, es6, clk6, by omega, by go_num, HRN, Lib.hid ⟨HA6.out.disk, HF6.out⟩, HKD, Lib.hid (by have := HWS.out; have := HW1.out; push_cast; omega)⟩
        case measure => simp [intOf]; omega
      · have he0 : (er != 0) = true := by simp [he]
        have HRN : Hid (R = (er, D2)) := Lib.hid (by rw [HRk.out, if_pos he])
        clear he
        go_wp2
        go_ret
        rw [HRN.out]
        exact ⟨rfl, es6, clk6, HA6.out.disk, fun j hj => (HF6.out j hj).imp id (fun h => Nat.le_trans HK2.out.size h), (HK2.out.mono (fun _ _ e => .inr e)).trans HKD.out (fun _ _ e => .inl e)⟩
    · have HRN : Hid (R = (0, D1)) := Lib.hid (by rw [HRk.out, List.drop_eq_nil_of_le (by omega)]; rfl)
      go_wp2
      go_ret
      rw [HRN.out]
      exact ⟨rfl, es1, clk1, HD1.out.1, fun j hj => (HD1.out.2 j hj).imp id (fun h => Nat.le_trans HK2.out.size h), (HK2.out.mono (fun _ _ e => .inr e)).trans HKr.out (fun _ _ e => .inl e)⟩
end Go.Proofs.YtemilbemdlpkaaaGreatDoor
