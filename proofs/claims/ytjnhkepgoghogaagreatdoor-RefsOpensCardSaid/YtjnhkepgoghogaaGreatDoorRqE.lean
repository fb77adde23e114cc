/- strings.HasPrefix, CutPrefix; espalierref04.Spot. -/
import Derived.Test.YtjnhkepgoghogaaGreatDoorRqA
import Derived.Lib.MapLaws
namespace Go.Proofs.YtjnhkepgoghogaaGreatDoor
open Go.RowKit Go.ChangeMaps Go.MapKept
set_option linter.unusedSimpArgs false

/-- Does a text begin with another one? -/
def preB (s p : ByteArray) : Bool := decide (p.size ≤ s.size) && ((s.extract 0 p.size).toList == p.toList)
theorem hasPre_any (s p : ByteArray) (w : World) : Calls Tryz.prog 87 #[.string s, .string p] w fun e w' => e = .returned (.bool (preB s p)) ∧ w = w' := by
  by_cases h : p.size ≤ s.size
  · have hb : decide ((p.size : Int) ≤ (s.size : Int)) = true := by simp; omega
    have hp : preB s p = ((s.extract 0 p.size).toList == p.toList) := by unfold preB; rw [decide_eq_true h, Bool.true_and]
    rw [hp]
    clear hp
    go_enter Tryz.func87, Tryz.ntmps87
    go_wp2_with fail
    go_ret
    exact ⟨rfl, rfl⟩
  · have hb : decide ((p.size : Int) ≤ (s.size : Int)) = false := by simp; omega
    have hp : preB s p = false := by unfold preB; rw [decide_eq_false h, Bool.false_and]
    rw [hp]
    clear hp
    go_enter Tryz.func87, Tryz.ntmps87
    go_wp2_with fail
    go_ret
    exact ⟨rfl, rfl⟩
theorem hasPrefix_any (s p : ByteArray) (w : World) : Calls Tryz.prog 79 #[.string s, .string p] w fun e w' => e = .returned (.bool (preB s p)) ∧ w = w' := by
  go_enter Tryz.func79, Tryz.ntmps79
  go_wp2_with fail
  refine (hasPre_any s p w).mono ?_
  rintro e w1 ⟨rfl, rfl⟩
  go_wp2_with fail
  go_ret
  exact ⟨rfl, rfl⟩
def cutP (s p : ByteArray) : ByteArray × Bool := if preB s p = true then (s.extract p.size s.size, true) else (s, false)
theorem preB_le {s p : ByteArray} (h : preB s p = true) : p.size ≤ s.size := by
  unfold preB at h
  simp at h
  exact h.1
theorem cutPre_any (s p : ByteArray) (w : World) : Calls Tryz.prog 107 #[.string s, .string p] w fun e w' => e = .returned (.tuple #[.string (cutP s p).1, .bool (cutP s p).2]) ∧ w = w' := by
  by_cases h : preB s p = true
  · have hle := preB_le h
    have hc : cutP s p = (s.extract p.size s.size, true) := if_pos h
    rw [hc]
    clear hc
    go_enter Tryz.func107, Tryz.ntmps107
    go_wp2_with fail
    refine (hasPre_any s p w).mono ?_
    rw [h]
    rintro e w1 ⟨rfl, rfl⟩
    go_wp2_with fail
    go_ret2
    exact ⟨rfl, rfl⟩
  · have hc : cutP s p = (s, false) := if_neg h
    rw [hc]
    clear hc
    go_enter Tryz.func107, Tryz.ntmps107
    go_wp2_with fail
    refine (hasPre_any s p w).mono ?_
    rw [Bool.eq_false_iff.2 h]
    rintro e w1 ⟨rfl, rfl⟩
    go_wp2_with fail
    go_ret2
    exact ⟨rfl, rfl⟩
theorem cutPrefix_any (s p : ByteArray) (w : World) : Calls Tryz.prog 92 #[.string s, .string p] w fun e w' => e = .returned (.tuple #[.string (cutP s p).1, .bool (cutP s p).2]) ∧ w = w' := by
  go_enter Tryz.func92, Tryz.ntmps92
  go_wp2_with fail
  refine (cutPre_any s p w).mono ?_
  rintro e w1 ⟨rfl, rfl⟩
  go_wp2_with fail
  go_ret2
  exact ⟨rfl, rfl⟩

/-! ### a name's spot -/
def fffd : ByteArray := ⟨#[239, 191, 189]⟩
/-- A rune that is none. -/
def brokenAt (s : ByteArray) (p : Nat) : Bool := decide ((Utf8.decode s p).1 = 65533) && !preB (s.extract p s.size) fffd
theorem get3 (s : ByteArray) (p : Nat) (h : p + 3 ≤ s.size) : (s.extract p (p + 3)).data.toList = [s.get! p, s.get! (p + 1), s.get! (p + 2)] := by
  have hl : s.data.toList.length = s.size := by rw [Array.length_toList]; rfl
  have hg : ∀ k (hk : k < s.data.toList.length), s.data.toList[k] = s.get! k := fun k hk => by
    rw [Array.getElem_toList]
    show _ = s.data[k]!
    rw [getElem!_pos s.data k (by simpa using hk)]
  rw [ByteArray.data_extract, Array.toList_extract, List.extract_eq_take_drop, List.drop_eq_getElem_cons (by omega), List.drop_eq_getElem_cons (by omega), List.drop_eq_getElem_cons (by omega), hg, hg, hg, show p + 3 - p = 3 from by omega]
  rfl
theorem preB_fffd (s : ByteArray) (p : Nat) (hp : p < s.size) : preB (s.extract p s.size) fffd = true ↔ 3 ≤ s.size - p ∧ s.get! p = 239 ∧ s.get! (p + 1) = 191 ∧ s.get! (p + 2) = 189 := by
  have hs : (s.extract p s.size).size = s.size - p := by rw [ByteArray.size_extract]; omega
  unfold preB
  rw [Bool.and_eq_true, decide_eq_true_iff, hs, show fffd.size = 3 from rfl]
  by_cases h3 : 3 ≤ s.size - p
  · have he : (s.extract p s.size).extract 0 3 = s.extract p (p + 3) := by
      apply ByteArray.ext
      rw [ByteArray.data_extract, ByteArray.data_extract, ByteArray.data_extract, Array.extract_extract]
      congr 1
      omega
    have h4 := get3 s p (by omega)
    have hiff : ((s.extract p (p + 3)).toList == fffd.toList) = true ↔ s.extract p (p + 3) = fffd := Lib.bytes_beq_iff _ _
    rw [he, hiff]
    have h5 : s.extract p (p + 3) = fffd ↔ [s.get! p, s.get! (p + 1), s.get! (p + 2)] = [239, 191, 189] := by
      rw [← h4]
      constructor
      · intro e; rw [e]; rfl
      · intro e
        apply ByteArray.ext
        apply Array.toList_inj.1
        rw [e]
        rfl
    rw [h5]
    simp [h3]
  · simp [h3]
theorem brokenAt_iff (s : ByteArray) (p : Nat) (hp : p < s.size) : brokenAt s p = true ↔ (Utf8.decode s p).1 = 65533 ∧ (Utf8.decode s p).2 < 3 := by
  have h := preB_fffd s p hp
  unfold brokenAt
  rw [Bool.and_eq_true, decide_eq_true_iff, Bool.not_eq_true', Bool.eq_false_iff, Ne, h, Lib.decode_at]
  have hx : ∀ a b : UInt8, a = b ↔ a.toNat = b.toNat := fun a b => UInt8.toNat_inj.symm
  rw [hx, hx, hx]
  have e1 : (239 : UInt8).toNat = 239 := rfl
  have e2 : (191 : UInt8).toNat = 191 := rfl
  have e3 : (189 : UInt8).toNat = 189 := rfl
  rw [e1, e2, e3]
  have b0 := (s.get! p).toNat_lt
  have b1 := (s.get! (p + 1)).toNat_lt
  have b2 := (s.get! (p + 2)).toNat_lt
  have b3 := (s.get! (p + 3)).toNat_lt
  generalize (s.get! p).toNat = x0 at *
  generalize (s.get! (p + 1)).toNat = x1 at *
  generalize (s.get! (p + 2)).toNat = x2 at *
  generalize (s.get! (p + 3)).toNat = x3 at *
  generalize s.size - p = n at *
  rcases Lib.decodeN_shape n x0 x1 x2 x3 with ⟨h1, h2⟩ | ⟨h1, h2, h3, h4, h5⟩ | ⟨h1, h2, h3, h4, h5, h6, h7⟩ | ⟨h1, h2, h3, h4, h5, h6, h7, h8⟩ | h1
  · rw [h2]; simp only []; omega
  · rw [h5]; simp only []; omega
  · rw [h7]; simp only []; omega
  · rw [h8]; simp only []; omega
  · rw [h1]
    simp only [true_and]
    refine ⟨fun _ => by omega, fun _ ⟨k1, k2, k3, k4⟩ => ?_⟩
    subst k2 k3 k4
    unfold Lib.decodeN at h1
    simp at h1
    omega

def spotGo (s : ByteArray) : Nat → Nat → Int × Int
  | 0, _ => (0, 0)
  | f + 1, p => if p < s.size then (if brokenAt s p = true ∨ badRune (Utf8.decode s p).1 = true then (140, p) else spotGo s f (p + (Utf8.decode s p).2)) else (0, 0)
def chkRes (c : ChkS) : Int × Int := if 0 ≤ c.wrong then (140, c.wrong) else (0, 0)
theorem width_in (s : ByteArray) (p : Nat) (hp : p < s.size) : p + (Utf8.decode s p).2 ≤ s.size := by
  have := Lib.decodeN_le_n' (s.size - p) (s.get! p).toNat (s.get! (p + 1)).toNat (s.get! (p + 2)).toNat (s.get! (p + 3)).toNat (by omega)
  rw [← Lib.decode_at] at this
  omega
theorem odd_ill {c : ChkS} (h : 0 ≤ c.wrong) (e : Nat) : c.look e = c := by
  unfold ChkS.look ChkS.odd
  rw [decide_eq_false (by omega), Bool.false_and]
  rfl
theorem chk_ill (s : ByteArray) (f p : Nat) (c : ChkS) (h : 0 ≤ c.wrong) : chkRes ((chkGo s f p c).look s.size) = (140, c.wrong) := by
  have e : chkGo s f p c = c := by
    by_cases hp : p < s.size
    · cases f with
      | zero => rfl
      | succ f =>
        have hl : (if 0 < p then c.look p else c) = c := by split <;> simp [odd_ill h]
        exact chkGo_left hp hl h
    · exact chkGo_over hp
  rw [e, odd_ill h]
  unfold chkRes
  rw [if_pos h]
theorem chk_odd (s : ByteArray) (f p : Nat) (c : ChkS) (h : c.odd p = true) (hp0 : 0 < p) (hp : p ≤ s.size) (hf : s.size ≤ p + f) : chkRes ((chkGo s f p c).look s.size) = (140, (c.last : Int)) := by
  have hlk : c.look p = { c with wrong := c.last } := by unfold ChkS.look; rw [if_pos h]
  by_cases hps : p < s.size
  · obtain ⟨f, rfl⟩ : ∃ g, f = g + 1 := ⟨f - 1, by omega⟩
    have hl : (if 0 < p then c.look p else c) = { c with wrong := c.last } := by rw [if_pos hp0, hlk]
    rw [chkGo_left hps hl (by simp), odd_ill (by simp)]
    simp [chkRes]
  · obtain rfl : p = s.size := by omega
    rw [chkGo_over hps, hlk]
    simp [chkRes]
/-- Spot's way is Check's. -/
theorem spot_chk (s : ByteArray) : ∀ (f p : Nat) (c : ChkS), s.size ≤ p + f → p ≤ s.size → c.wrong < 0 → c.odd p = false → chkRes ((chkGo s f p c).look s.size) = spotGo s f p
  | 0, p, c, h1, h2, h3, h4 => by
    obtain rfl : p = s.size := by omega
    show chkRes (c.look s.size) = _
    unfold ChkS.look
    rw [h4]
    simp [chkRes, spotGo]
    omega
  | f + 1, p, c, h1, h2, h3, h4 => by
    by_cases hp : p < s.size
    · have hl : (if 0 < p then c.look p else c) = c := by
        split
        · unfold ChkS.look; rw [h4]; rfl
        · rfl
      have hw := width_in s p hp
      have hw1 := Lib.width_pos s p
      rw [chkGo_next hp hl (by omega)]
      unfold spotGo
      rw [if_pos hp]
      by_cases hb : badRune (Utf8.decode s p).1 = true
      · rw [if_pos hb, if_pos (Or.inr hb), chk_ill _ _ _ _ (by simp)]
      · rw [if_neg hb]
        by_cases hk : brokenAt s p = true
        · rw [if_pos (Or.inl hk)]
          obtain ⟨k1, k2⟩ := (brokenAt_iff s p hp).1 hk
          rw [chk_odd]
          · unfold ChkS.odd
            simp only [k1, decide_true, Bool.true_and, Bool.and_eq_true, decide_eq_true_eq]
            omega
          · omega
          · exact hw
          · omega
        · rw [if_neg (fun h => h.elim hk hb)]
          refine spot_chk s f _ _ (by omega) hw h3 ?_
          unfold ChkS.odd
          have h5 : ¬ ((Utf8.decode s p).1 = 65533 ∧ (Utf8.decode s p).2 < 3) := fun h => hk ((brokenAt_iff s p hp).2 h)
          by_cases h6 : (Utf8.decode s p).1 = 65533
          · rw [decide_eq_false (p := ((p + (Utf8.decode s p).2 : Nat) : Int) - (p : Nat) < 3) (by omega)]
            simp
          · simp [h6]
    · obtain rfl : p = s.size := by omega
      rw [chkGo_over hp]
      unfold ChkS.look spotGo
      rw [h4, if_neg hp]
      simp [chkRes]
      omega
/-- The document's Spot. -/
def spotOf (s : ByteArray) : Int × Int :=
  if s = ⟨#[]⟩ ∨ s = ⟨#[46]⟩ ∨ s = ⟨#[46, 46]⟩ then (140, 0)
  else if 32 < s.size then (3, 32)
  else spotGo s s.size 0
theorem spotOf_eq (s : ByteArray) : spotOf s = checkOf s := by
  unfold spotOf checkOf
  rw [← spot_chk s s.size 0 ⟨0, -1, 32⟩ (by omega) (by omega) (by simp) (by simp [ChkS.odd])]
  rfl
end Go.Proofs.YtjnhkepgoghogaaGreatDoor

/- espalierref04.Spot: the walk. -/
namespace Go.Proofs.YtjnhkepgoghogaaGreatDoor
open Go.RowKit Go.ChangeMaps Go.MapKept
set_option linter.unusedSimpArgs false

def SpotRel (s : ByteArray) (w : World) (n g : Nat) (wr : World) : Prop := ∃ pos : Nat, Hid (spotGo s g pos = spotOf s) ∧ s.size ≤ pos + g ∧ pos ≤ s.size ∧ Hid (wr.heap[n + 1]? = some (.stringIter s pos)) ∧ Hid (wr.heap[n]? = some (.cells #[.int .i64 0, .int .i64 0] 77 (0, 0))) ∧ Hid (Kept (fun _ => False) w wr)
set_option maxRecDepth 100000 in
set_option maxHeartbeats 4000000 in
theorem spot_any (s : ByteArray) (w : World) :
    Calls Tryz.prog 63 #[.string s] w fun e w' => e = .returned (.agg #[.int .i64 (spotOf s).1, .int .i64 (spotOf s).2]) ∧ Kept (fun _ => False) w w' := by
  by_cases h0 : s = ⟨#[]⟩
  · subst h0
    go_enter Tryz.func63, Tryz.ntmps63
    go_wp2_with fail
    refine spot_ret rfl rfl rfl (heap_alloc_new _ _) ((Kept.refl _ _).alloc _) ?_
    simp [spotOf]
  · have h0b : s.toList.isEmpty = false := by
      have h := (Lib.bytes_beq_false_iff s ⟨#[]⟩).2 h0
      rw [show ByteArray.toList ⟨#[]⟩ = [] from by kernel_rfl] at h
      cases hl : s.toList <;> simp_all
    by_cases h1 : s = ⟨#[46]⟩
    · subst h1
      go_enter Tryz.func63, Tryz.ntmps63
      go_wp2_with fail
      refine spot_ret rfl rfl rfl (heap_alloc_new _ _) ((Kept.refl _ _).alloc _) ?_
      simp [spotOf]
    · have h1b : (s.toList == [46]) = false := by
        have h := (Lib.bytes_beq_false_iff s ⟨#[46]⟩).2 h1
        rwa [show ByteArray.toList ⟨#[46]⟩ = [46] from by kernel_rfl] at h
      by_cases h2 : s = ⟨#[46, 46]⟩
      · subst h2
        go_enter Tryz.func63, Tryz.ntmps63
        go_wp2_with fail
        refine spot_ret rfl rfl rfl (heap_alloc_new _ _) ((Kept.refl _ _).alloc _) ?_
        simp [spotOf]
      · have h2b : (s.toList == [46, 46]) = false := by
          have h := (Lib.bytes_beq_false_iff s ⟨#[46, 46]⟩).2 h2
          rwa [show ByteArray.toList ⟨#[46, 46]⟩ = [46, 46] from by kernel_rfl] at h
        by_cases h3 : 32 < s.size
        · have h3b : decide (32 < (s.size : Int)) = true := by simp; omega
          go_enter Tryz.func63, Tryz.ntmps63
          go_wp2_with fail
          refine spot_ret rfl rfl rfl (heap_alloc_new _ _) ((Kept.refl _ _).alloc _) ?_
          simp [spotOf, h0, h1, h2, h3]
        · have h3b : decide (32 < (s.size : Int)) = false := by simp; omega
          have hso : spotOf s = spotGo s s.size 0 := by simp [spotOf, h0, h1, h2, h3]
          go_enter Tryz.func63, Tryz.ntmps63
          go_wp2_with fail
          obtain ⟨w4, hw4⟩ : ∃ W, (w.alloc (.cells #[.int .i64 0, .int .i64 0] 77)).iter s 0 = W := ⟨_, rfl⟩
          have hR4 : w4.heap[w.heap.size]? = some (.cells #[.int .i64 0, .int .i64 0] 77 (0, 0)) := by rw [← hw4]; exact alloc_old (heap_alloc_new _ _)
          have hit4 : w4.heap[w.heap.size + 1]? = some (.stringIter s 0) := by
            have h := World.iter_heap (w.alloc (.cells #[.int .i64 0, .int .i64 0] 77)) s 0
            rw [World.size_alloc] at h
            rw [← hw4]; exact h
          have hk4 : Kept (fun _ => False) w w4 := by rw [← hw4]; exact ((Kept.refl _ _).alloc _).alloc _
          rw [hw4]
          obtain ⟨n, hn⟩ : ∃ n, w.heap.size = n := ⟨_, rfl⟩
          rw [hn] at hR4 hit4 ⊢
          have HSET : Hid (∀ V, Kept (fun _ => False) w V → ∀ x y : Int, Kept (fun _ => False) w ((V.setCell ⟨n, 0, none⟩ (.int .i64 x)).setCell ⟨n, 1, none⟩ (.int .i64 y))) := Lib.hid (fun V hV x y => (hV.setCell (p := ⟨n, 0, none⟩) (fun h => by simp at h; omega) _).setCell (p := ⟨n, 1, none⟩) (fun h => by simp at h; omega) _)
          have HN := Lib.hid hn
          have HS0 := Lib.hid hso
          have HI4 := Lib.hid hit4
          have HR4 := Lib.hid hR4
          have HK4 := Lib.hid hk4
          clear hw4 hn hR4 hit4 hk4 hso h0b h1b h2b h3b h0 h1 h2
          go_loopg [] s.size (fun gg wr => SpotRel s w n gg wr)
          case atStart => exact ⟨0, Lib.hid HS0.out.symm, by omega, by omega, HI4, HR4, HK4⟩
          case round =>
            obtain ⟨pos, HG, hfu, hps, HI, HR, HK⟩ := hrel
            clear HI4 HR4 HK4
            by_cases hlt : pos < s.size
            · obtain ⟨g', rfl⟩ : ∃ g', gk = g' + 1 := ⟨gk - 1, by omega⟩
              have hnx : ∀ ty, (Instr.next (.pointer (some ⟨n + 1, 0, none⟩)) true ty).run Tryz.prog wr = _ := fun ty => Lib.run_next_any_at wr (n + 1) s pos ty HI.out hlt
              have hwn := width_in s pos hlt
              have hwd := Lib.width_pos s pos
              have hrl := decode_le s pos
              have hsg : spotGo s (g' + 1) pos = if brokenAt s pos = true ∨ badRune (Utf8.decode s pos).1 = true then (140, (pos : Int)) else spotGo s g' (pos + (Utf8.decode s pos).2) := by
                rw [spotGo, if_pos hlt]
              have HI2 := Lib.hid (Lib.iterAt_heap wr (n + 1) s pos (pos + (Utf8.decode s pos).2) HI.out)
              have hbk : brokenAt s pos = (decide ((Utf8.decode s pos).1 = 65533) && !preB (s.extract pos s.size) ⟨#[239, 191, 189]⟩) := rfl
              obtain ⟨r, hr⟩ : ∃ R, (Utf8.decode s pos).1 = R := ⟨_, rfl⟩
              obtain ⟨q, hq⟩ : ∃ K, (Utf8.decode s pos).2 = K := ⟨_, rfl⟩
              rw [hr, hq] at hnx hsg
              rw [hr] at hbk
              rw [hq] at hwd hwn HI2
              rw [hr] at hrl
              have HB : Hid ((brokenAt s pos = true ∨ badRune r = true) → spotGo s (g' + 1) pos = (140, (pos : Int))) := Lib.hid (fun h => by rw [hsg, if_pos h])
              have HGD : Hid (¬ (brokenAt s pos = true ∨ badRune r = true) → spotGo s (g' + 1) pos = spotGo s g' (pos + q)) := Lib.hid (fun h => by rw [hsg, if_neg h])
              have HKI : Hid (Kept (· = n + 1) wr (wr.iterAt (n + 1) s (pos + q))) := Lib.hid (by
                refine ⟨rfl, rfl, rfl, by simp [World.iterAt], fun i hi hne => iterAt_ne hne s _⟩)
              obtain ⟨W, hW⟩ : ∃ W, wr.iterAt (n + 1) s (pos + q) = W := ⟨_, rfl⟩
              rw [hW] at hnx HI2 HKI
              have HR2 : Hid (W.heap[n]? = some (.cells #[.int .i64 0, .int .i64 0] 77 (0, 0))) := Lib.hid ((HKI.out.block n (Array.getElem?_eq_some_iff.1 HR.out).1 (by omega)).trans HR.out)
              have HK2 : Hid (Kept (fun _ => False) w W) := Lib.hid (HK.out.trans HKI.out (fun i hi e => by have := HN.out; omega))
              clear hW hr hq HI HR HK hsg
              by_cases hrf : r = 65533
              · subst hrf
                have hbd : badRune 65533 = false := by decide
                cases hpre : preB (s.extract pos s.size) ⟨#[239, 191, 189]⟩ with
                | true =>
                  have hbr : brokenAt s pos = false := by rw [hbk, hpre]; simp
                  clear hbk
                  have HN2 := Lib.hid (HGD.out (by rw [hbr, hbd]; simp))
                  go_wp2_with fail
                  refine (hasPrefix_any (s.extract pos s.size) ⟨#[239, 191, 189]⟩ W).mono ?_
                  rw [hpre]
                  rintro e W' ⟨rfl, rfl⟩
                  go_wp2_with fail
                  go_roundg g'
                  case measure => omega
                  case rel => exact ⟨pos + q, Lib.hid (by rw [← HN2.out]; exact HG.out), by omega, hwn, HI2, HR2, HK2⟩
                | false =>
                  have hbr : brokenAt s pos = true := by rw [hbk, hpre]; simp
                  clear hbk
                  have y1 : W.cell? ⟨n, 0, none⟩ = some (.int .i64 0) := by simp [World.cell?, HR2.out]
                  have y2 : W.cell? ⟨n, 1, none⟩ = some (.int .i64 0) := by simp [World.cell?, HR2.out]
                  have y3 : W.frozen? ⟨n, 0, none⟩ = false := by simp [World.frozen?, HR2.out]
                  have y4 : W.frozen? ⟨n, 1, none⟩ = false := by simp [World.frozen?, HR2.out]
                  go_wp2_with fail
                  refine (hasPrefix_any (s.extract pos s.size) ⟨#[239, 191, 189]⟩ W).mono ?_
                  rw [hpre]
                  rintro e W' ⟨rfl, rfl⟩
                  go_wp2_with fail
                  refine spot_ret rfl rfl rfl ((heap_setCell_row (heap_setCell_row HR2.out _) _).trans rfl) (HSET.out W HK2.out _ _) ?_
                  rw [← HG.out, HB.out (Or.inl hbr)]
              · have hrfb : ((r : Int) == 65533) = false := by simp; omega
                have hbr : badRune r = false → ¬ (brokenAt s pos = true ∨ badRune r = true) := fun h => by rw [hbk, h]; simp [hrf]
                clear hbk
                by_cases hr1 : r < 32
                · have hr1b : decide ((r : Int) < 32) = true := by simp; omega
                  have hbd : badRune r = true := by simp [badRune, hr1]
                  have y1 : W.cell? ⟨n, 0, none⟩ = some (.int .i64 0) := by simp [World.cell?, HR2.out]
                  have y2 : W.cell? ⟨n, 1, none⟩ = some (.int .i64 0) := by simp [World.cell?, HR2.out]
                  have y3 : W.frozen? ⟨n, 0, none⟩ = false := by simp [World.frozen?, HR2.out]
                  have y4 : W.frozen? ⟨n, 1, none⟩ = false := by simp [World.frozen?, HR2.out]
                  go_wp2_with fail
                  refine spot_ret rfl rfl rfl ((heap_setCell_row (heap_setCell_row HR2.out _) _).trans rfl) (HSET.out W HK2.out _ _) ?_
                  rw [← HG.out, HB.out (Or.inr hbd)]
                · have hr1b : decide ((r : Int) < 32) = false := by simp; omega
                  by_cases hr2 : r = 127
                  · have hbd : badRune r = true := by simp [badRune, hr2]
                    clear hr1
                    subst hr2
                    have y1 : W.cell? ⟨n, 0, none⟩ = some (.int .i64 0) := by simp [World.cell?, HR2.out]
                    have y2 : W.cell? ⟨n, 1, none⟩ = some (.int .i64 0) := by simp [World.cell?, HR2.out]
                    have y3 : W.frozen? ⟨n, 0, none⟩ = false := by simp [World.frozen?, HR2.out]
                    have y4 : W.frozen? ⟨n, 1, none⟩ = false := by simp [World.frozen?, HR2.out]
                    go_wp2_with fail
                    refine spot_ret rfl rfl rfl ((heap_setCell_row (heap_setCell_row HR2.out _) _).trans rfl) (HSET.out W HK2.out _ _) ?_
                    rw [← HG.out, HB.out (Or.inr hbd)]
                  · have hr2b : ((r : Int) == 127) = false := by simp; omega
                    by_cases hr3 : r = 47
                    · have hbd : badRune r = true := by simp [badRune, hr3]
                      clear hr1 hr2
                      subst hr3
                      have y1 : W.cell? ⟨n, 0, none⟩ = some (.int .i64 0) := by simp [World.cell?, HR2.out]
                      have y2 : W.cell? ⟨n, 1, none⟩ = some (.int .i64 0) := by simp [World.cell?, HR2.out]
                      have y3 : W.frozen? ⟨n, 0, none⟩ = false := by simp [World.frozen?, HR2.out]
                      have y4 : W.frozen? ⟨n, 1, none⟩ = false := by simp [World.frozen?, HR2.out]
                      go_wp2_with fail
                      refine spot_ret rfl rfl rfl ((heap_setCell_row (heap_setCell_row HR2.out _) _).trans rfl) (HSET.out W HK2.out _ _) ?_
                      rw [← HG.out, HB.out (Or.inr hbd)]
                    · have hr3b : ((r : Int) == 47) = false := by simp; omega
                      have hbd : badRune r = false := by simp [badRune, hr2, hr3]; omega
                      clear hr1 hr2 hr3
                      have HN2 := Lib.hid (HGD.out (hbr hbd))
                      go_wp2_with fail
                      go_roundg g'
                      case measure => omega
                      case rel => exact ⟨pos + q, Lib.hid (by rw [← HN2.out]; exact HG.out), by omega, hwn, HI2, HR2, HK2⟩
            · have hnx : ∀ ty, (Instr.next (.pointer (some ⟨n + 1, 0, none⟩)) true ty).run Tryz.prog wr = .ok (.tuple #[.bool false]) wr := fun ty => by
                simp [Instr.next, getObj, Sem.run, HI.out, hlt]
              have y1 : wr.cell? ⟨n, 0, none⟩ = some (.int .i64 0) := by simp [World.cell?, HR.out]
              have y2 : wr.cell? ⟨n, 1, none⟩ = some (.int .i64 0) := by simp [World.cell?, HR.out]
              have y3 : wr.frozen? ⟨n, 0, none⟩ = false := by simp [World.frozen?, HR.out]
              have y4 : wr.frozen? ⟨n, 1, none⟩ = false := by simp [World.frozen?, HR.out]
              have HE : Hid (spotOf s = (0, 0)) := Lib.hid (by
                rw [← HG.out]
                cases gk with
                | zero => rfl
                | succ g => rw [spotGo, if_neg hlt])
              go_wp2_with fail
              exact spot_ret rfl rfl rfl ((heap_setCell_row (heap_setCell_row HR.out _) _).trans rfl) (HSET.out wr HK.out _ _) HE.out
end Go.Proofs.YtjnhkepgoghogaaGreatDoor

/- espalierref04: Parts, Path, Is, Wrong. -/
namespace Go.Proofs.YtjnhkepgoghogaaGreatDoor
open Go.RowKit Go.ChangeMaps Go.MapKept
set_option linter.unusedSimpArgs false

set_option maxHeartbeats 1000000 in
theorem rparts_any (s : ByteArray) (hs : s.size < 4294967281) (w : World) :
    Calls Tryz.prog 62 #[.string s] w fun e w' => (∃ a c, e = .returned (.slice a (partsOf s).length c) ∧ (partsOf s = [] ∨ ∃ g, a = some ⟨g, 0, none⟩ ∧ w.heap.size ≤ g ∧ w'.heap[g]? = some (.cells ((partsOf s).map Value.string).toArray 9 (0, 0)))) ∧ Kept (fun _ => False) w w' := by
  by_cases h0 : s = ⟨#[]⟩
  · subst h0
    go_enter Tryz.func62, Tryz.ntmps62
    go_wp2_with fail
    go_ret
    exact ⟨⟨none, 0, rfl, .inl rfl⟩, Kept.refl _ _⟩
  · have h0b : s.toList.isEmpty = false := by
      have h := (Lib.bytes_beq_false_iff s ⟨#[]⟩).2 h0
      rw [show ByteArray.toList ⟨#[]⟩ = [] from by kernel_rfl] at h
      cases hl : s.toList <;> simp_all
    have hp : partsOf s = piecesOf s := if_neg h0
    rw [hp]
    go_enter Tryz.func62, Tryz.ntmps62
    go_wp2_with fail
    refine (split_any s hs w).mono ?_
    rintro e w' ⟨rfl, rfl⟩
    go_wp2_with fail
    go_ret
    exact ⟨⟨_, _, rfl, .inr ⟨_, rfl, Nat.le_refl _, heap_alloc_new _ _⟩⟩, (Kept.refl _ _).alloc _⟩
set_option maxRecDepth 100000 in
set_option maxHeartbeats 4000000 in
theorem rpath_any (s : ByteArray) (w : World) :
    Calls Tryz.prog 29 #[.string s] w fun e w' => e = .returned (.agg #[.int .i64 (pathOf s).1, .int .i64 (pathOf s).2]) ∧ Kept (fun _ => False) w w' := by
  by_cases h3 : 200 < s.size
  · have h3b : decide (200 < (s.size : Int)) = true := by simp; omega
    go_enter Tryz.func29, Tryz.ntmps29
    go_wp2_with fail
    refine spot_ret rfl rfl rfl (heap_alloc_new _ _) ((Kept.refl _ _).alloc _) ?_
    simp [pathOf, h3]
  · have h3b : decide (200 < (s.size : Int)) = false := by simp; omega
    have hpl := Lib.hid (parts_le s)
    have hpo : pathOf s = pathGo 0 0 (partsOf s) := if_neg h3
    obtain ⟨ps, hps⟩ : ∃ l, partsOf s = l := ⟨_, rfl⟩
    have HPL : Hid (∀ x ∈ ps, x.size ≤ 200) := Lib.hid (fun x hx => by rw [← hps] at hx; have := hpl.out x hx; omega)
    have hlen : (partsOf s).length ≤ 300 := by
      unfold partsOf
      split
      · simp
      · rw [pieces_len]
        have := Lib.countB_le strokeB (by decide) s.size s (Nat.le_refl _)
        omega
    have hpc := Lib.hid (rparts_any s (by omega))
    rw [hps] at hpc hlen
    obtain ⟨PG, hPG⟩ : ∃ x, pathGo 0 0 ps = x := ⟨_, rfl⟩
    have HPG := Lib.hid hPG
    have hpg : pathOf s = PG := by rw [hpo, hps, hPG]
    rw [hpg]
    have HLEN := Lib.hid hlen
    clear hpl hpo hps hPG hpg hlen
    go_enter Tryz.func29, Tryz.ntmps29
    go_wp2_with fail
    obtain ⟨w1, hw1⟩ : ∃ W, w.alloc (.cells #[.int .i64 0, .int .i64 0] 77) = W := ⟨_, rfl⟩
    have hR1 : w1.heap[w.heap.size]? = some (.cells #[.int .i64 0, .int .i64 0] 77 (0, 0)) := by rw [← hw1]; exact heap_alloc_new _ _
    have hk1 : Kept (fun _ => False) w w1 := by rw [← hw1]; exact (Kept.refl _ _).alloc _
    rw [hw1]
    clear hw1
    refine (hpc.out w1).mono ?_
    rintro e w2 ⟨⟨a, cp, rfl, hrow⟩, hk2⟩
    have HR2 := Lib.hid ((hk2.block _ (Array.getElem?_eq_some_iff.1 hR1).1 (fun f => f)).trans hR1)
    have HK2 := Lib.hid (hk1.trans hk2 (fun _ _ f => f))
    have HROW := Lib.hid hrow
    obtain ⟨n, hn⟩ : ∃ n, ps.length = n := ⟨_, rfl⟩
    rw [hn]
    have HN := Lib.hid hn
    obtain ⟨R, hR⟩ : ∃ R, w.heap.size = R := ⟨_, rfl⟩
    rw [hR] at HR2 ⊢
    have HSET : Hid (∀ V, Kept (fun _ => False) w V → ∀ x y : Int, Kept (fun _ => False) w ((V.setCell ⟨R, 0, none⟩ (.int .i64 x)).setCell ⟨R, 1, none⟩ (.int .i64 y))) := Lib.hid (fun V hV x y => (hV.setCell (p := ⟨R, 0, none⟩) (fun h => by simp at h; omega) _).setCell (p := ⟨R, 1, none⟩) (fun h => by simp at h; omega) _)
    have hn63 : n ≤ 300 := by have := HLEN.out; omega
    clear hrow hn hR hk1 hk2 hR1
    go_wp2_with fail
    go_loopg [3, 14] n (fun gg s3 s14 wr => ∃ (k : Nat) (p : Int), k + gg = n ∧ k ≤ 16 ∧ s14 = .int .i64 k ∧ s3 = .int .i64 p ∧ 0 ≤ p ∧ p ≤ 201 * k ∧ Hid (pathGo k p (ps.drop k) = PG) ∧ Hid (Kept (fun _ => False) w2 wr))
    case atStart => exact ⟨0, 0, by omega, by omega, rfl, rfl, by omega, by omega, Lib.hid (by simpa using HPG.out), Lib.hid (Kept.refl _ _)⟩
    case round =>
      obtain ⟨k, p, hkg, hk16, rfl, rfl, hp1, hp2, HG, HK⟩ := hrel
      have HRW : Hid (wr.heap[R]? = some (.cells #[.int .i64 0, .int .i64 0] 77 (0, 0))) := Lib.hid ((HK.out.block _ (Array.getElem?_eq_some_iff.1 HR2.out).1 (fun f => f)).trans HR2.out)
      have HKW : Hid (Kept (fun _ => False) w wr) := Lib.hid (HK2.out.trans HK.out (fun _ _ f => f))
      by_cases hlt : k < n
      · have hkl : k < ps.length := by have := HN.out; omega
        obtain ⟨x, hx⟩ : ∃ x, ps[k] = x := ⟨_, rfl⟩
        have hd : ps.drop k = x :: ps.drop (k + 1) := by rw [List.drop_eq_getElem_cons hkl, hx]
        have HX : Hid (pathGo k p (x :: ps.drop (k + 1)) = PG) := Lib.hid (by rw [← hd]; exact HG.out)
        have hx200 : x.size ≤ 200 := HPL.out x (by rw [← hx]; exact List.getElem_mem hkl)
        rcases HROW.out with e | ⟨g, rfl, hg1, hg2⟩
        · rw [e] at hkl; simp at hkl
        have hc : wr.cell? ⟨g, k, none⟩ = some (.string x) := by
          have h4 := (HK.out.block _ (Array.getElem?_eq_some_iff.1 hg2).1 (fun f => f)).trans hg2
          simp [World.cell?, h4, hkl, hx]
        clear hg1 hg2 hd hx
        by_cases h16 : k = 16
        · subst h16
          have y1 : wr.cell? ⟨R, 0, none⟩ = some (.int .i64 0) := by simp [World.cell?, HRW.out]
          have y2 : wr.cell? ⟨R, 1, none⟩ = some (.int .i64 0) := by simp [World.cell?, HRW.out]
          have y3 : wr.frozen? ⟨R, 0, none⟩ = false := by simp [World.frozen?, HRW.out]
          have y4 : wr.frozen? ⟨R, 1, none⟩ = false := by simp [World.frozen?, HRW.out]
          go_wp2_with fail
          refine spot_ret rfl rfl rfl ((heap_setCell_row (heap_setCell_row HRW.out _) _).trans rfl) (HSET.out wr HKW.out _ _) ?_
          rw [← HX.out]
          simp [pathGo]
        · have h16b : ((k : Int) == 16) = false := by simp; omega
          have hcl := checkOf_le x
          obtain ⟨C, hC⟩ : ∃ C, checkOf x = C := ⟨_, rfl⟩
          have hck := Lib.hid (by have h := spot_any x wr; rw [spotOf_eq] at h; exact h : Calls Tryz.prog 63 #[.string x] wr fun e w' => e = .returned (.agg #[.int .i64 (checkOf x).1, .int .i64 (checkOf x).2]) ∧ Kept (fun _ => False) wr w')
          have HNX : Hid (pathGo k p (x :: ps.drop (k + 1)) = if C.1 ≠ 0 then (C.1, p + C.2) else pathGo (k + 1) (p + ((x.size : Int) + 1)) (ps.drop (k + 1))) := Lib.hid (by rw [← hC]; simp only [pathGo, h16, if_false])
          rw [hC] at hck hcl
          obtain ⟨hcl1, hcl2⟩ := hcl
          obtain ⟨C1, C2⟩ := C
          simp only at hcl1 hcl2
          clear hC
          go_wp2_with fail
          refine hck.out.mono ?_
          rintro e w5 ⟨rfl, hk5⟩
          obtain ⟨w6, hw6⟩ : ∃ W, w5.alloc (.cells #[.int .i64 C1, .int .i64 C2] 77) = W := ⟨_, rfl⟩
          have hR6 : w6.heap[R]? = some (.cells #[.int .i64 0, .int .i64 0] 77 (0, 0)) := by rw [← hw6]; exact alloc_old ((hk5.block _ (Array.getElem?_eq_some_iff.1 HRW.out).1 (fun f => f)).trans HRW.out)
          have hS6 : w6.heap[w5.heap.size]? = some (.cells #[.int .i64 C1, .int .i64 C2] 77 (0, 0)) := by rw [← hw6]; exact heap_alloc_new _ _
          have hk6 : Kept (fun _ => False) w5 w6 := by rw [← hw6]; exact (Kept.refl _ _).alloc _
          have HK6 := Lib.hid (HKW.out.trans (hk5.trans hk6 (fun _ _ f => f)) (fun _ _ f => f))
          have HKR6 := Lib.hid (HK.out.trans (hk5.trans hk6 (fun _ _ f => f)) (fun _ _ f => f))
          have s0 : w6.cell? ⟨w5.heap.size, 0, none⟩ = some (.int .i64 C1) := by simp [World.cell?, hS6]
          have s1 : w6.cell? ⟨w5.heap.size, 1, none⟩ = some (.int .i64 C2) := by simp [World.cell?, hS6]
          have y1 : w6.cell? ⟨R, 0, none⟩ = some (.int .i64 0) := by simp [World.cell?, hR6]
          have y2 : w6.cell? ⟨R, 1, none⟩ = some (.int .i64 0) := by simp [World.cell?, hR6]
          have y3 : w6.frozen? ⟨R, 0, none⟩ = false := by simp [World.frozen?, hR6]
          have y4 : w6.frozen? ⟨R, 1, none⟩ = false := by simp [World.frozen?, hR6]
          have HR6 := Lib.hid hR6
          clear hR6 hS6 hk5 hk6 hck hc
          by_cases hz : C1 = 0
          · subst hz
            go_wp2_with fail
            go_roundg (gk - 1)
            case measure => omega
            case rel => exact ⟨k + 1, p + ((x.size : Int) + 1), by omega, by omega, by go_num, by go_num, by omega, by omega, Lib.hid (by rw [← HX.out, HNX.out]; simp), HKR6⟩
          · have hzb : (C1 == 0) = false := by simp [hz]
            go_wp2_with fail
            refine spot_ret rfl rfl rfl ((heap_setCell_row (heap_setCell_row HR6.out _) _).trans rfl) (HSET.out w6 HK6.out _ _) ?_
            rw [← HX.out, HNX.out]
            simp [hz]
      · have y1 : wr.cell? ⟨R, 0, none⟩ = some (.int .i64 0) := by simp [World.cell?, HRW.out]
        have y2 : wr.cell? ⟨R, 1, none⟩ = some (.int .i64 0) := by simp [World.cell?, HRW.out]
        have y3 : wr.frozen? ⟨R, 0, none⟩ = false := by simp [World.frozen?, HRW.out]
        have y4 : wr.frozen? ⟨R, 1, none⟩ = false := by simp [World.frozen?, HRW.out]
        have hpe : PG = (0, 0) := by
          rw [← HG.out, List.drop_eq_nil_of_le (by have := HN.out; omega)]
          rfl
        go_wp2_with fail
        refine spot_ret rfl rfl rfl ((heap_setCell_row (heap_setCell_row HRW.out _) _).trans rfl) (HSET.out wr HKW.out _ _) hpe

set_option maxRecDepth 100000 in
theorem ris_any (s : ByteArray) (w : World) : Calls Tryz.prog 84 #[.string s] w fun e w' => e = .returned (.bool (decide ((pathOf s).1 = 0))) ∧ Kept (fun _ => False) w w' := by
  have hp := rpath_any s w
  obtain ⟨⟨x, y⟩, hq⟩ : ∃ q, pathOf s = q := ⟨_, rfl⟩
  rw [hq] at hp ⊢
  have HP := Lib.hid hp
  clear hq hp
  have hfld : ∀ W, (Instr.field 77 (.agg #[.int .i64 x, .int .i64 y]) 0).run Tryz.prog W = .ok (.int .i64 x) W := fun _ => by kernel_rfl
  go_enter Tryz.func84, Tryz.ntmps84
  go_wp2_with fail
  refine HP.out.mono ?_
  rintro e w1 ⟨rfl, hk⟩
  go_wp2_with fail
  go_ret
  exact ⟨by by_cases h : x = 0 <;> simp [h], hk⟩
theorem rwrong_any (s : ByteArray) (w : World) : Calls Tryz.prog 70 #[.string s] w fun e w' => e = .returned (.bool (decide ((pathOf s).1 ≠ 0))) ∧ Kept (fun _ => False) w w' := by
  have hp := ris_any s w
  obtain ⟨⟨x, y⟩, hq⟩ : ∃ q, pathOf s = q := ⟨_, rfl⟩
  rw [hq] at hp ⊢
  have HP := Lib.hid hp
  clear hq hp
  go_enter Tryz.func70, Tryz.ntmps70
  go_wp2_with fail
  refine HP.out.mono ?_
  rintro e w1 ⟨rfl, hk⟩
  go_wp2_with fail
  go_ret
  exact ⟨by by_cases h : x = 0 <;> simp [h], hk⟩
end Go.Proofs.YtjnhkepgoghogaaGreatDoor
