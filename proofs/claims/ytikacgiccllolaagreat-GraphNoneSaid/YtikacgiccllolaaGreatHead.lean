/- espalierlaw11: a history, read; heads. -/
import Derived.Test.YtikacgiccllolaaGreatBornC
set_option linter.unusedSimpArgs false
namespace Go.Proofs.YtikacgiccllolaaGreat
open Go.RowKit Go.ChangeMaps Go.MapKept

/-- A history at block Hb, as it is read. -/
structure HistAt (w : World) (Hb s : Nat) (F : Nat → Prop) (st : HSt) (na ia ta : Option Addr) (nc ic tc : Nat) (S : List NdM) : Prop where
  ob : ObAt w s F st.os
  c0 : w.cell? ⟨Hb, 0, none⟩ = some (.pointer (some ⟨s, 0, none⟩))
  c1 : w.cell? ⟨Hb, 1, none⟩ = some (.slice na S.length nc)
  c2 : w.cell? ⟨Hb, 2, none⟩ = some (.slice ia st.ids.length ic)
  c3 : w.cell? ⟨Hb, 3, none⟩ = some (.slice ta st.bare.length tc)
  c4 : w.cell? ⟨Hb, 4, none⟩ = some (.int .u64 zId)
  nd : IsD w w.heap.size (.slice na S.length nc) S
  ndS : nodesD S = st.nd
  ids : IsI w (.slice ia st.ids.length ic) st.ids
  bare : st.bare = [] ∨ ∃ g, ta = some ⟨g, 0, none⟩ ∧ g < w.heap.size ∧ ∀ k (hk : k < st.bare.length), w.cell? ⟨g, k, none⟩ = some (.bool st.bare[k])
  ok : HOk st
  len : st.ids.length ≤ 24
section
variable {w w' : World} {Hb s : Nat} {F : Nat → Prop} {st : HSt} {na ia ta : Option Addr} {nc ic tc : Nat} {S : List NdM}
theorem HistAt.kept (h : HistAt w Hb s F st na ia ta nc ic tc S) (hk : Kept (fun _ => False) w w') : HistAt w' Hb s F st na ia ta nc ic tc S :=
  ⟨h.ob.keptN hk, hk.cell h.c0 (fun f => f), hk.cell h.c1 (fun f => f), hk.cell h.c2 (fun f => f), hk.cell h.c3 (fun f => f), hk.cell h.c4 (fun f => f), (h.nd.keptN hk).up hk.size, h.ndS, h.ids.keptN hk, by
    rcases h.bare with h1 | ⟨g, h1, h2, h3⟩
    · exact .inl h1
    · exact .inr ⟨g, h1, Nat.lt_of_lt_of_le h2 hk.size, fun k hkk => hk.cell (h3 k hkk) (fun f => f)⟩, h.ok, h.len⟩
theorem HistAt.sl (h : HistAt w Hb s F st na ia ta nc ic tc S) : S.length ≤ 24 ∧ st.os.length ≤ 25 ∧ (nodesO st.os).length = S.length + 1 := by
  have h1 := h.ok.len
  have h2 := h.ok.oslen
  have h3 := h.len
  rw [← h.ndS] at h1 h2
  simp [nodesD] at h1 h2
  exact ⟨by omega, by omega, by simp [nodesO, h2]⟩
theorem BuildAt.hist {n0 m : Nat} {nv iv bv : Value} (h : BuildAt w n0 Hb s F st m nv iv bv S) (ho : HOk st) (hl : st.ids.length ≤ 24) : ∃ na ia ta nc ic tc, HistAt w Hb s F st na ia ta nc ic tc S := by
  obtain ⟨na, nc, rfl, -, -⟩ := h.nd.form
  obtain ⟨ia, ic, rfl, -, -⟩ := h.ids.form
  obtain ⟨ta, tc, rfl, -, -⟩ := h.bare.form
  obtain ⟨c0, c1, c2, c3, c4, -⟩ := h.c
  refine ⟨na, ia, ta, nc, ic, tc, h.ob.ob, c0, c1, c2, c3, c4, h.nd.isD (Nat.le_refl _) (fun p hp => ?_), h.ndS, h.ids.isI (fun x hx => (ho.ids x hx).2.2), ?_, ho, hl⟩
  · have hpn : p.node ∈ st.nd := by rw [← h.ndS]; exact List.mem_map_of_mem hp
    exact ⟨ho.node_lt _ hpn, (h.pv p hp).1, (ho.par _ hpn).2⟩
  · obtain ⟨-, hb⟩ := h.bare
    rcases hb with ⟨e, h0⟩ | ⟨g, cap, cur, e, hb, hg, hn, hc, hs, ht⟩
    · exact .inl (List.length_eq_zero_iff.1 h0)
    · cases e
      refine .inr ⟨g, rfl, (Array.getElem?_eq_some_iff.1 hg).1, fun k hk => ?_⟩
      have e : (st.bare.map Value.bool)[k]? = some (.bool st.bare[k]) := by simp [hk]
      rw [cell_of_row w g k cur _ (0, 0) hg, ← e, ← ht, List.getElem?_take, if_pos (by omega)]
      simp
end
theorem bornsF_len : ∀ (l : List BornM) (st st' : HSt), bornsF st l = some st' → st'.ids.length = st.ids.length + l.length := by
  intro l
  induction l with
  | nil => intro st st' h; cases h; rfl
  | cons b l ih =>
    intro st st' h
    unfold bornsF at h
    cases hb : bornStep st b with
    | none => rw [hb] at h; cases h
    | some st1 =>
      rw [hb] at h
      have h1 := HOk.step_len hb
      have h2 := ih st1 st' h
      rw [h2, h1, List.length_cons]
      omega
theorem bornF_len {l : List BornM} {st : HSt} (h : bornF l = some st) : st.ids.length = min 24 l.length := by
  have := bornsF_len _ _ _ h
  rw [this, List.length_take]
  simp [st0]
/-- born, once more: what the laws ask of it. -/
def bornR (w' : World) (e : Ending) : Option HSt → Prop
  | none => e = .returned (.tuple #[.pointer none, .bool true])
  | some st => ∃ Hb s F na ia ta nc ic tc S, e = .returned (.tuple #[.pointer (some ⟨Hb, 0, none⟩), .bool false]) ∧ HistAt w' Hb s F st na ia ta nc ic tc S
theorem born_is (w : World) (a : Option Addr) (n c : Nat) (l : List BornM) (h : IsBn w (.slice a n c) l) :
    Calls Tryz.prog 6 #[.slice a n c] w fun e w' => bornR w' e (bornF l) ∧ Kept (fun _ => False) w w' := by
  refine (born_any w a n c l h).mono ?_
  rintro e w' ⟨he, hk⟩
  refine ⟨?_, hk⟩
  cases hb : bornF l with
  | none => rw [hb] at he; exact he
  | some st =>
    rw [hb] at he
    obtain ⟨Hb, s, F, m, nv, iv, bv, S, rfl, hB, ho⟩ := he
    obtain ⟨na, ia, ta, nc, ic, tc, hH⟩ := hB.hist ho (by rw [bornF_len hb]; omega)
    exact ⟨Hb, s, F, na, ia, ta, nc, ic, tc, S, rfl, hH⟩

def headI (ids : List Nat) (n : Int) : Nat := if n < 0 ∨ ids = [] then 99 else ids.getD (n.toNat % ids.length) 0
def headsOf (ids : List Nat) (l : List Int) : List Nat := (l.take 8).map (headI ids)
theorem headI_mem (ids : List Nat) (n : Int) : headI ids n = 99 ∨ headI ids n ∈ ids := by
  unfold headI
  split
  · exact .inl rfl
  · rename_i h
    have hl : 0 < ids.length := List.length_pos_iff.2 (fun e => h (.inr e))
    right
    rw [List.getD_eq_getElem?_getD, List.getElem?_eq_getElem (Nat.mod_lt _ hl), Option.getD_some]
    exact List.getElem_mem _
theorem HOk.headI {st : HSt} (h : HOk st) (n : Int) : headI st.ids n ≠ zId ∧ headI st.ids n < 18446744073709551616 := by
  rcases headI_mem st.ids n with e | e
  · rw [e]; decide
  · exact ⟨h.idz e, (h.ids _ e).2.2⟩
theorem HOk.heads {st : HSt} (h : HOk st) (l : List Int) : zId ∉ headsOf st.ids l ∧ ∀ x ∈ headsOf st.ids l, x < 18446744073709551616 := by
  refine ⟨fun hm => ?_, fun x hm => ?_⟩
  · obtain ⟨n, -, e⟩ := List.mem_map.1 hm
    exact (h.headI n).1 e
  · obtain ⟨n, -, rfl⟩ := List.mem_map.1 hm
    exact (h.headI n).2
theorem headsOf_length (ids : List Nat) (l : List Int) : (headsOf ids l).length = min 8 l.length := by simp [headsOf]
theorem headsOf_step {ids : List Nat} {l : List Int} {k : Nat} (hk : k < l.length) (h8 : k < 8) {x : Int} (hx : l[k] = x) : headsOf ids (l.take (k + 1)) = headsOf ids (l.take k) ++ [headI ids x] := by
  unfold headsOf
  rw [List.take_take, List.take_take, Nat.min_eq_right (by omega), Nat.min_eq_right (by omega), List.take_succ_eq_append_getElem hk, List.map_append, hx]
  rfl
theorem headsOf_take {ids : List Nat} {l : List Int} {k : Nat} (h : l.length ≤ k ∨ 8 ≤ k) : headsOf ids (l.take k) = headsOf ids l := by
  unfold headsOf
  rcases h with h | h
  · rw [List.take_of_length_le h]
  · rw [List.take_take, Nat.min_eq_left h]

set_option maxRecDepth 100000 in
set_option maxHeartbeats 1000000 in
theorem heads_any {w : World} {Hb s : Nat} {F : Nat → Prop} {st : HSt} {na ia ta : Option Addr} {nc ic tc : Nat} {S : List NdM} (h : HistAt w Hb s F st na ia ta nc ic tc S) (za : Option Addr) (zn zc : Nat) (l : List Int) (hz : IsZ w (.slice za zn zc) l) :
    Calls Tryz.prog 7 #[.pointer (some ⟨Hb, 0, none⟩), .slice za zn zc] w fun e w' => (∃ v, e = .returned v ∧ OwnI w.heap.size w' v (headsOf st.ids l)) ∧ Kept (fun _ => False) w w' := by
  obtain ⟨hn1, hn2, hn3⟩ := hz.len
  have HN1 := Lib.hid hn1
  have HH := Lib.hid h
  have HZ := Lib.hid hz
  obtain ⟨il, hil⟩ : ∃ il, st.ids.length = il := ⟨_, rfl⟩
  have HIL := Lib.hid hil
  clear hn1 hz hil h
  go_enter Tryz.func7, Tryz.ntmps7
  go_wp2_with fail
  go_loopg [5, 10] zn (fun g ov i wr => ∃ k, k ≤ zn ∧ k ≤ 8 ∧ k + g = zn ∧ i = .int .i64 k ∧ Hid (OwnI w.heap.size wr ov (headsOf st.ids (l.take k))) ∧ Hid (Kept (fun _ => False) w wr))
  case atStart => exact ⟨0, Nat.zero_le _, by omega, by omega, rfl, Lib.hid (by simp [headsOf]; exact OwnI.none _ _), Lib.hid (Kept.refl _ _)⟩
  case round =>
    obtain ⟨k, hkn, hk8, hkg, rfl, HO, HK⟩ := hrel
    obtain ⟨va, vc, rfl, -, -⟩ := HO.out.form
    obtain ⟨vn, hvn⟩ : ∃ vn, (headsOf st.ids (l.take k)).length = vn := ⟨_, rfl⟩
    rw [hvn] at HO ⊢
    have HVN := Lib.hid hvn
    clear hvn
    by_cases hlt : k < zn
    · have hkl : k < l.length := by have := HN1.out; omega
      obtain ⟨g, off, rfl, hg, hc⟩ := (HZ.out.kept HK.out (fun _ _ f => f)).at hkl
      obtain ⟨x, hx⟩ : ∃ x, l[k] = x := ⟨_, rfl⟩
      rw [hx] at hc
      have HX := Lib.hid hx
      by_cases h8 : k = 8
      · have hb8 : ((k : Int) == 8) = true := by simp [h8]
        have HFN : Hid (OwnI w.heap.size wr (.slice va vn vc) (headsOf st.ids l)) := Lib.hid (by rw [← headsOf_take (k := k) (.inr (by omega))]; exact HO.out)
        clear hx h8
        go_wp2_with fail
        go_ret
        exact ⟨⟨_, rfl, HFN.out⟩, HK.out⟩
      · have hb8 : ((k : Int) == 8) = false := by simp; omega
        have c2 := (HH.out.kept HK.out).c2
        rw [HIL.out] at c2
        have HST := Lib.hid (headsOf_step (ids := st.ids) hkl (by omega) hx)
        clear hx
        by_cases hneg : x < 0 ∨ il = 0
        · have HHI : Hid (headI st.ids x = 99) := Lib.hid (by
            unfold headI
            rw [if_pos]
            rcases hneg with h | h
            · exact .inl h
            · exact .inr (List.length_eq_zero_iff.1 (HIL.out.trans h)))
          obtain ⟨v', w', hrun, ho', hk', -⟩ := ids_app HO.out HK.out.size 99 (by rw [headsOf_length]; omega)
          rw [show ((99 : Nat) : Int) = 99 from rfl] at hrun
          have HO' : Hid (OwnI w.heap.size w' v' (headsOf st.ids (l.take (k + 1)))) := Lib.hid (by rw [HST.out, HHI.out]; exact ho')
          have HK' : Hid (Kept (fun _ => False) w w') := Lib.hid (HK.out.more hk' (fun i e => (HO.out.base e).1))
          clear ho' hk'
          by_cases hx0 : x < 0
          · clear hneg
            go_wp2_with (at_builtin; refine wpList_append_run rfl (.tmp 44) (.tmp 45) #[28, 28] rfl _ _ _ _ rfl rfl hrun ?_)
            go_roundg (gk - 1)
            case measure => omega
            case rel => exact ⟨k + 1, by omega, by omega, by omega, by go_num, HO', HK'⟩
          · obtain rfl : il = 0 := hneg.resolve_left hx0
            clear hneg
            go_wp2_with (at_builtin; refine wpList_append_run rfl (.tmp 44) (.tmp 45) #[28, 28] rfl _ _ _ _ rfl rfl hrun ?_)
            go_roundg (gk - 1)
            case measure => omega
            case rel => exact ⟨k + 1, by omega, by omega, by omega, by go_num, HO', HK'⟩
        · have hx0 : ¬ x < 0 := fun h => hneg (.inl h)
          have hil0 : ((il : Int) == 0) = false := by simp; intro e; exact hneg (.inr (by omega))
          have hil1 : 0 < il := by omega
          have hmod := Nat.mod_lt x.toNat hil1
          obtain ⟨r, hr⟩ : ∃ r, x.toNat % il = r := ⟨_, rfl⟩
          have hrl : r < st.ids.length := by have := HIL.out; omega
          have hrem : x.tmod (il : Int) = (r : Int) := by
            rw [Int.tmod_eq_emod_of_nonneg (by omega), ← hr]
            have : x = (x.toNat : Int) := by omega
            rw [this]
            simp
          obtain ⟨ig, io, rfl, hig, hic0⟩ := HH.out.ids.at hrl
          have hic := HK.out.cell hic0 (fun f => f)
          obtain ⟨y, hy⟩ : ∃ y, st.ids[r] = y := ⟨_, rfl⟩
          rw [hy] at hic
          have HHI : Hid (headI st.ids x = y) := Lib.hid (by
            unfold headI
            rw [if_neg (fun h => by
              rcases h with h | h
              · exact hx0 h
              · have := HIL.out; rw [h] at this; simp at this; omega), HIL.out, hr, List.getD_eq_getElem?_getD, List.getElem?_eq_getElem hrl]
            exact hy)
          have hkd : Kept (fun _ => False) wr wr.drew := (Kept.refl _ _).drew
          obtain ⟨v', w', hrun, ho', hk', -⟩ := ids_app (HO.out.keptF hkd (fun _ _ f => f)) HK.out.size y (by rw [headsOf_length]; omega)
          have hHb := World.block_lt_of_cell? w _ HH.out.c0
          have HS0 : wr.drew.cell? ⟨Hb, 2, none⟩ = some (.slice (some ⟨ig, io, none⟩) il ic) ∧ wr.drew.cell? ⟨ig, io + r, none⟩ = some (.int .u64 y) := ⟨c2, hic⟩
          have hkA : Kept (fun _ => False) wr.drew (wr.drew.alloc (.cells #[.int .u64 y] 37)) := (Kept.refl _ _).alloc _
          have HS1 : (wr.drew.alloc (.cells #[.int .u64 y] 37)).cell? ⟨Hb, 2, none⟩ = some (.slice (some ⟨ig, io, none⟩) il ic) ∧ (wr.drew.alloc (.cells #[.int .u64 y] 37)).cell? ⟨ig, io + r, none⟩ = some (.int .u64 y) := ⟨hkA.cell HS0.1 (fun f => f), hkA.cell HS0.2 (fun f => f)⟩
          have HS2 : w'.cell? ⟨Hb, 2, none⟩ = some (.slice (some ⟨ig, io, none⟩) il ic) ∧ w'.cell? ⟨ig, io + r, none⟩ = some (.int .u64 y) := ⟨hk'.cell HS0.1 (fun e => by have := (HO.out.base e).1; simp only at this hHb; omega), hk'.cell HS0.2 (fun e => by have := (HO.out.base e).1; simp only at this; omega)⟩
          have HO' : Hid (OwnI w.heap.size w' v' (headsOf st.ids (l.take (k + 1)))) := Lib.hid (by rw [HST.out, HHI.out]; exact ho')
          have HK' : Hid (Kept (fun _ => False) w w') := Lib.hid ((HK.out.more hkd (fun _ f => f.elim)).more hk' (fun i e => (HO.out.base e).1))
          have hilp : ¬ il = 0 := by omega
          have e0 : (0 : Int) ≤ (r : Int) := by omega
          have e1 : (r : Int) < (il : Int) := by omega
          clear hr hy hneg ho' hk' hkd hig hHb
          go_wp2_with fail
          refine wp_region_phase (fun w' => w'.cell? ⟨Hb, 2, none⟩ = some (.slice (some ⟨ig, io, none⟩) il ic) ∧ w'.cell? ⟨ig, io + r, none⟩ = some (.int .u64 y)) (fun _ => false) (by kernel_rfl) HS0 (fun _ => ?_)
          refine wpAnyG_take (i := 0) (v := ?_) rfl (by kernel_rfl) (by kernel_rfl) (by kernel_rfl) (by kernel_rfl) (fun _ _ _ h => h) (Or.inl ⟨by rfl, ?_⟩) HS0 ?_
          rotate_left
          (intro w' hSw'; have ⟨_, _⟩ := hSw'; go_simp; try with_reducible rfl)
          try simp only [Act.put, List.setIfInBounds_toArray, List.set_cons_zero, List.set_cons_succ, List.getElem_toArray, List.getElem_cons_zero, List.getElem_cons_succ]
          refine wpAnyG_take (i := 1) (v := ?_) rfl (by kernel_rfl) (by kernel_rfl) (by kernel_rfl) (by kernel_rfl) (fun _ _ _ h => h) (Or.inl ⟨by rfl, ?_⟩) HS0 ?_
          rotate_left
          (intro w' hSw'; have ⟨_, _⟩ := hSw'; go_simp; try with_reducible rfl)
          try simp only [Act.put, List.setIfInBounds_toArray, List.set_cons_zero, List.set_cons_succ, List.getElem_toArray, List.getElem_cons_zero, List.getElem_cons_succ]
          refine wpAnyG_take (i := 2) (v := ?_) rfl (by kernel_rfl) (by kernel_rfl) (by kernel_rfl) (by kernel_rfl) (fun _ _ _ h => h) (Or.inl ⟨by rfl, ?_⟩) HS0 ?_
          rotate_left
          (intro w' hSw'; have ⟨_, _⟩ := hSw'; go_simp; try with_reducible rfl)
          try simp only [Act.put, List.setIfInBounds_toArray, List.set_cons_zero, List.set_cons_succ, List.getElem_toArray, List.getElem_cons_zero, List.getElem_cons_succ]
          refine wpAnyG_take (i := 3) (v := ?_) rfl (by kernel_rfl) (by kernel_rfl) (by kernel_rfl) (by kernel_rfl) (fun _ _ _ h => h) (Or.inl ⟨by rfl, ?_⟩) HS0 ?_
          rotate_left
          (intro w' hSw'; have ⟨_, _⟩ := hSw'; go_simp; try with_reducible rfl)
          try simp only [Act.put, List.setIfInBounds_toArray, List.set_cons_zero, List.set_cons_succ, List.getElem_toArray, List.getElem_cons_zero, List.getElem_cons_succ]
          refine wpAnyG_take (i := 4) (v := ?_) rfl (by kernel_rfl) (by kernel_rfl) (by kernel_rfl) (by kernel_rfl) (fun _ _ _ h => h) (Or.inl ⟨by rfl, ?_⟩) HS0 ?_
          rotate_left
          (intro w' hSw'; have ⟨_, _⟩ := hSw'; go_simp; try with_reducible rfl)
          try simp only [Act.put, List.setIfInBounds_toArray, List.set_cons_zero, List.set_cons_succ, List.getElem_toArray, List.getElem_cons_zero, List.getElem_cons_succ]
          refine wpAnyG_take (i := 5) (v := ?_) rfl (by kernel_rfl) (by kernel_rfl) (by kernel_rfl) (by kernel_rfl) (fun _ _ _ h => h) (Or.inl ⟨by rfl, ?_⟩) HS0 ?_
          rotate_left
          (intro w' hSw'; have ⟨_, _⟩ := hSw'; go_simp; try with_reducible rfl)
          try simp only [Act.put, List.setIfInBounds_toArray, List.set_cons_zero, List.set_cons_succ, List.getElem_toArray, List.getElem_cons_zero, List.getElem_cons_succ]
          refine wpAnyG_take (i := 6) (v := ?_) rfl (by kernel_rfl) (by kernel_rfl) (by kernel_rfl) (by kernel_rfl) (fun _ _ _ h => h) (Or.inl ⟨by rfl, ?_⟩) HS0 ?_
          rotate_left
          (intro w' hSw'; have ⟨_, _⟩ := hSw'; go_simp; try with_reducible rfl)
          try simp only [Act.put, List.setIfInBounds_toArray, List.set_cons_zero, List.set_cons_succ, List.getElem_toArray, List.getElem_cons_zero, List.getElem_cons_succ]
          refine wpAnyG_take (i := 7) (v := ?_) rfl (by kernel_rfl) (by kernel_rfl) (by kernel_rfl) (by kernel_rfl) (fun _ _ _ h => h) (Or.inl ⟨by rfl, ?_⟩) HS0 ?_
          rotate_left
          (intro w' hSw'; have ⟨_, _⟩ := hSw'; go_simp; try with_reducible rfl)
          try simp only [Act.put, List.setIfInBounds_toArray, List.set_cons_zero, List.set_cons_succ, List.getElem_toArray, List.getElem_cons_zero, List.getElem_cons_succ]
          refine wpAnyG_take (i := 8) (v := ?_) rfl (by kernel_rfl) (by kernel_rfl) (by kernel_rfl) (by kernel_rfl) (fun _ _ _ h => h) (Or.inl ⟨by rfl, ?_⟩) HS0 ?_
          rotate_left
          (intro w' hSw'; have ⟨_, _⟩ := hSw'; go_simp; try with_reducible rfl)
          try simp only [Act.put, List.setIfInBounds_toArray, List.set_cons_zero, List.set_cons_succ, List.getElem_toArray, List.getElem_cons_zero, List.getElem_cons_succ]
          refine wpAnyG_take (i := 9) (v := ?_) rfl (by kernel_rfl) (by kernel_rfl) (by kernel_rfl) (by kernel_rfl) (fun _ _ _ h => h) (Or.inl ⟨by rfl, ?_⟩) HS0 ?_
          rotate_left
          (intro w' hSw'; have ⟨_, _⟩ := hSw'; go_simp; try with_reducible rfl)
          try simp only [Act.put, List.setIfInBounds_toArray, List.set_cons_zero, List.set_cons_succ, List.getElem_toArray, List.getElem_cons_zero, List.getElem_cons_succ]
          refine wpAnyG_take (i := 10) (v := ?_) rfl (by kernel_rfl) (by kernel_rfl) (by kernel_rfl) (by kernel_rfl) (fun _ _ _ h => h) (Or.inl ⟨by rfl, ?_⟩) HS0 ?_
          rotate_left
          (intro w' hSw'; have ⟨_, _⟩ := hSw'; go_simp; try with_reducible rfl)
          try simp only [Act.put, List.setIfInBounds_toArray, List.set_cons_zero, List.set_cons_succ, List.getElem_toArray, List.getElem_cons_zero, List.getElem_cons_succ]
          refine wpAnyG_take (i := 11) (v := ?_) rfl (by kernel_rfl) (by kernel_rfl) (by kernel_rfl) (by kernel_rfl) (fun _ _ _ h => h) (Or.inl ⟨by rfl, ?_⟩) HS0 ?_
          rotate_left
          (intro w' hSw'; have ⟨_, _⟩ := hSw'; go_simp; try with_reducible rfl)
          try simp only [Act.put, List.setIfInBounds_toArray, List.set_cons_zero, List.set_cons_succ, List.getElem_toArray, List.getElem_cons_zero, List.getElem_cons_succ]
          refine wpAnyG_take (i := 12) (v := ?_) rfl (by kernel_rfl) (by kernel_rfl) (by kernel_rfl) (by kernel_rfl) (fun _ _ _ h => h) (Or.inl ⟨by rfl, ?_⟩) HS0 ?_
          rotate_left
          (intro w' hSw'; have ⟨_, _⟩ := hSw'; go_simp; try with_reducible rfl)
          try simp only [Act.put, List.setIfInBounds_toArray, List.set_cons_zero, List.set_cons_succ, List.getElem_toArray, List.getElem_cons_zero, List.getElem_cons_succ]
          refine wpAnyG_take (i := 13) (v := ?_) rfl (by kernel_rfl) (by kernel_rfl) (by kernel_rfl) (by kernel_rfl) (fun _ _ _ h => h) (Or.inl ⟨by rfl, ?_⟩) HS0 ?_
          rotate_left
          (intro w' hSw'; have ⟨_, _⟩ := hSw'; go_simp; try with_reducible rfl)
          try simp only [Act.put, List.setIfInBounds_toArray, List.set_cons_zero, List.set_cons_succ, List.getElem_toArray, List.getElem_cons_zero, List.getElem_cons_succ]
          refine wpAnyG_ready (rs := [14]) (by kernel_rfl) (by simp) ?_
          refine AllG.cons rfl (ph' := false) (by kernel_rfl) (fun K hK => ?_) AllG.nil
          go_simp
          refine hK.out _ _ (fun _ => HS1) ?_
          clear hK K
          try simp only [Act.put, List.setIfInBounds_toArray, List.set_cons_zero, List.set_cons_succ, List.getElem_toArray, List.getElem_cons_zero, List.getElem_cons_succ]
          refine wpAnyG_ready (rs := [15]) (by kernel_rfl) (by simp) ?_
          refine AllG.cons rfl (ph' := false) (by kernel_rfl) (fun K hK => ?_) AllG.nil
          refine step_append_run rfl (.tmp 17) (.tmp 31) #[28, 28] rfl _ _ _ _ rfl rfl hrun ?_
          refine hK.out _ _ (fun _ => HS2) ?_
          clear hK K
          try simp only [Act.put, List.setIfInBounds_toArray, List.set_cons_zero, List.set_cons_succ, List.getElem_toArray, List.getElem_cons_zero, List.getElem_cons_succ]
          refine wpAnyG_ready (rs := [16]) (by kernel_rfl) (by simp) ?_
          refine AllG.cons rfl (ph' := false) (by kernel_rfl) (fun K hK => ?_) AllG.nil
          go_simp
          refine hK.out _ _ (fun _ => HS2) ?_
          clear hK K
          try simp only [Act.put, List.setIfInBounds_toArray, List.set_cons_zero, List.set_cons_succ, List.getElem_toArray, List.getElem_cons_zero, List.getElem_cons_succ]
          refine wpAnyG_done (by kernel_rfl) ?_ _
          clear HS0 HS1 HS2 hrun hkA hrem c2 hic hic0 hmod
          go_wp2_with fail
          go_roundg (gk - 1)
          case measure => omega
          case rel => exact ⟨k + 1, by omega, by omega, by omega, by go_num, HO', HK'⟩
    · have HFN : Hid (OwnI w.heap.size wr (.slice va vn vc) (headsOf st.ids l)) := Lib.hid (by rw [← headsOf_take (k := k) (.inl (by have := HN1.out; omega))]; exact HO.out)
      go_wp2_with fail
      go_ret
      exact ⟨⟨_, rfl, HFN.out⟩, HK.out⟩
end Go.Proofs.YtikacgiccllolaaGreat
