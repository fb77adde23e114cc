/- espalierref11: Find, Has, Parents; espalierlaw11: same, place. -/
import Derived.Test.YtikacgiccllolaaGreatGraphD
import Derived.Test.YtikacgiccllolaaGreatObjA
import Derived.Test.YtikacgiccllolaaGreatPhase
import Derived.BigQuiet
namespace Go.Proofs.YtikacgiccllolaaGreat
open Go.RowKit Go.ChangeMaps Go.MapKept

theorem keptDrewM (w : World) (n : Nat) : Kept (fun _ => False) w (w.drewN n) := ⟨rfl, rfl, rfl, Nat.le_refl _, fun _ _ _ => rfl⟩
/-- A node of the reference. -/
structure NdM where
  id : Nat
  pv : Value
  ps : List Nat
  other : Bool
def NdM.node (p : NdM) : NodeM := ⟨p.id, p.ps, p.other⟩
def nodesD (S : List NdM) : List NodeM := S.map NdM.node
/-- A slice value that reads as these nodes; all of it below block B. -/
def IsD (w : World) (B : Nat) (v : Value) (S : List NdM) : Prop :=
  ∃ a c, v = .slice a S.length c ∧ S.length ≤ c ∧ c ≤ maxLen ∧ (∀ p ∈ S, p.id < 18446744073709551616 ∧ IsI w p.pv p.ps ∧ ∀ g, p.pv.ownBlock = some g → g < B) ∧
    (S = [] ∨ ∃ g o, a = some ⟨g, o, none⟩ ∧ g < B ∧ ∀ k (hk : k < S.length), w.cell? ⟨g, o + k * 3, none⟩ = some (.int .u64 S[k].id) ∧ w.cell? ⟨g, o + k * 3 + 1, none⟩ = some S[k].pv ∧ w.cell? ⟨g, o + k * 3 + 2, none⟩ = some (.bool S[k].other))
theorem IsD.kept {G : Nat → Prop} {w w' : World} {B : Nat} {v : Value} {S : List NdM} (h : IsD w B v S) (hk : Kept G w w') (hG : ∀ k, k < B → ¬ G k) : IsD w' B v S := by
  obtain ⟨a, c, e, h1, h2, h3, h4⟩ := h
  refine ⟨a, c, e, h1, h2, fun p hp => ⟨(h3 p hp).1, (h3 p hp).2.1.kept hk (fun g e => hG g ((h3 p hp).2.2 g e)), (h3 p hp).2.2⟩, ?_⟩
  rcases h4 with h4 | ⟨g, o, rfl, hg, hc⟩
  · exact .inl h4
  · exact .inr ⟨g, o, rfl, hg, fun k hkk => ⟨hk.cell (hc k hkk).1 (hG g hg), hk.cell (hc k hkk).2.1 (hG g hg), hk.cell (hc k hkk).2.2 (hG g hg)⟩⟩
theorem IsD.keptN {w w' : World} {B : Nat} {v : Value} {S : List NdM} (h : IsD w B v S) (hk : Kept (fun _ => False) w w') : IsD w' B v S := h.kept hk (fun _ _ f => f)
theorem IsD.up {w : World} {B B' : Nat} {v : Value} {S : List NdM} (h : IsD w B v S) (hB : B ≤ B') : IsD w B' v S := by
  obtain ⟨a, c, e, h1, h2, h3, h4⟩ := h
  refine ⟨a, c, e, h1, h2, fun p hp => ⟨(h3 p hp).1, (h3 p hp).2.1, fun g e => Nat.lt_of_lt_of_le ((h3 p hp).2.2 g e) hB⟩, ?_⟩
  rcases h4 with h4 | ⟨g, o, rfl, hg, hc⟩
  · exact .inl h4
  · exact .inr ⟨g, o, rfl, Nat.lt_of_lt_of_le hg hB, hc⟩
theorem IsD.at {w : World} {B : Nat} {a : Option Addr} {n c : Nat} {S : List NdM} (h : IsD w B (.slice a n c) S) {k : Nat} (hk : k < S.length) : ∃ g o, a = some ⟨g, o, none⟩ ∧ g < B ∧ w.cell? ⟨g, o + k * 3, none⟩ = some (.int .u64 S[k].id) ∧ w.cell? ⟨g, o + k * 3 + 1, none⟩ = some S[k].pv ∧ w.cell? ⟨g, o + k * 3 + 2, none⟩ = some (.bool S[k].other) := by
  obtain ⟨a', c', e, h1, h2, h3, h4⟩ := h
  cases e
  obtain ⟨g, o, rfl, hg, hc⟩ := h4.resolve_left (fun e => by rw [e] at hk; simp at hk)
  exact ⟨g, o, rfl, hg, hc k hk⟩
theorem IsD.len {w : World} {B : Nat} {a : Option Addr} {n c : Nat} {S : List NdM} (h : IsD w B (.slice a n c) S) : n = S.length ∧ n ≤ 9223372036854775807 := by
  obtain ⟨a', c', e, h1, h2, h3, h4⟩ := h
  cases e
  unfold maxLen at h2
  exact ⟨rfl, by omega⟩
theorem IsD.mem {w : World} {B : Nat} {v : Value} {S : List NdM} (h : IsD w B v S) : ∀ p ∈ S, p.id < 18446744073709551616 ∧ IsI w p.pv p.ps ∧ ∀ g, p.pv.ownBlock = some g → g < B := by
  obtain ⟨a', c', e, h1, h2, h3, h4⟩ := h
  exact h3
theorem IsI.len {w : World} {a : Option Addr} {n c : Nat} {l : List Nat} (h : IsI w (.slice a n c) l) : n = l.length ∧ n ≤ c ∧ n ≤ 9223372036854775807 := by
  obtain ⟨a', c', e, h1, h2, h3, h4⟩ := h
  cases e
  unfold maxLen at h2
  exact ⟨rfl, h1, by omega⟩

/-- Where a list has what it looks for first. -/
def FirstAt {α : Type} (l : List α) (q : α → Prop) (r : Int) : Prop := (r = -1 ∧ ∀ y ∈ l, ¬ q y) ∨ ∃ k, ∃ h : k < l.length, r = (k : Int) ∧ q l[k] ∧ ∀ i (hi : i < l.length), i < k → ¬ q l[i]
theorem FirstAt.none {α : Type} {l : List α} {q : α → Prop} {k : Nat} (hk : l.length ≤ k) (h : ∀ i (hi : i < l.length), i < k → ¬ q l[i]) : FirstAt l q (-1) :=
  .inl ⟨rfl, fun y hy => by obtain ⟨i, hi, e⟩ := List.getElem_of_mem hy; rw [← e]; exact h i hi (by omega)⟩
theorem findN_at {N : List NodeM} {x : Nat} {k : Nat} (hk : k < N.length) (h : N[k].id = x) (hno : ∀ i (hi : i < N.length), i < k → N[i].id ≠ x) : findN N x = some N[k] := by
  unfold findN
  rw [List.find?_eq_some_iff_getElem]
  refine ⟨by simpa using h, k, hk, rfl, fun j hj => ?_⟩
  simpa using hno j (by omega) hj
theorem findN_none {N : List NodeM} {x : Nat} (h : ∀ d ∈ N, d.id ≠ x) : findN N x = none := by
  unfold findN
  rw [List.find?_eq_none]
  intro d hd
  simpa using h d hd
theorem find_first {S : List NdM} {x : Nat} {r : Int} (h : FirstAt S (fun p => p.id = x) r) : (r = -1 ∧ findN (nodesD S) x = none) ∨ ∃ k, ∃ h : k < S.length, r = (k : Int) ∧ S[k].id = x ∧ findN (nodesD S) x = some S[k].node := by
  rcases h with ⟨h1, h2⟩ | ⟨k, hk, h1, h2, h3⟩
  · refine .inl ⟨h1, findN_none (fun d hd => ?_)⟩
    obtain ⟨p, hp, rfl⟩ := List.mem_map.1 hd
    exact h2 p hp
  · refine .inr ⟨k, hk, h1, h2, ?_⟩
    have := findN_at (N := nodesD S) (x := x) (k := k) (by simpa [nodesD] using hk) (by simpa [nodesD, NdM.node] using h2) (fun i hi hik => by have := h3 i (by simpa [nodesD] using hi) hik; simpa [nodesD, NdM.node] using this)
    simpa [nodesD] using this

set_option maxRecDepth 100000 in
theorem rfind_any (w : World) (B : Nat) (a : Option Addr) (n c : Nat) (S : List NdM) (x : Nat) (h : IsD w B (.slice a n c) S) :
    Calls Tryz.prog 23 #[.slice a n c, .int .u64 x] w fun e w' => (∃ r : Int, e = .returned (.int .i64 r) ∧ FirstAt S (fun p => p.id = x) r) ∧ w = w' := by
  obtain ⟨rfl, hl⟩ := h.len
  go_enter Tryz.func23, Tryz.ntmps23
  go_wp2_with fail
  go_loopw [5] (fun i wr => w = wr ∧ ∃ k : Nat, k ≤ S.length ∧ i = .int .i64 k ∧ Hid (∀ i (hi : i < S.length), i < k → S[i].id ≠ x)) (fun i _ => S.length - (intOf i).toNat)
  case atStart => exact ⟨rfl, 0, Nat.zero_le _, rfl, Lib.hid (fun _ _ h => absurd h (Nat.not_lt_zero _))⟩
  case round =>
    obtain ⟨rfl, k, hk, rfl, hno⟩ := hrel
    by_cases hlt : k < S.length
    · obtain ⟨g, o, rfl, hg, hc, -, -⟩ := h.at hlt
      obtain ⟨y, hy⟩ : ∃ y, S[k].id = y := ⟨_, rfl⟩
      rw [hy] at hc
      have HY := Lib.hid hy
      clear hy
      by_cases hxy : y = x
      · have hM : Hid (S[k].id = x) := Lib.hid (HY.out.trans hxy)
        subst hxy
        go_wp2_with fail
        go_ret
        exact ⟨⟨_, rfl, .inr ⟨k, hlt, rfl, hM.out, hno.out⟩⟩, rfl⟩
      · have hxy2 : ((y : Int) == (x : Int)) = false := by simp; omega
        go_wp2_with fail
        go_roundw
        case rel => exact ⟨(by first | rfl | trivial), k + 1, by omega, by go_num, Lib.hid (fun i hi hik => by
          rcases Nat.lt_or_ge i k with h | h
          · exact hno.out i hi h
          · obtain rfl : i = k := by omega
            rw [HY.out]; exact hxy)⟩
        case measure => simp [intOf]; omega
    · have hM : Hid (FirstAt S (fun p => p.id = x) (-1)) := Lib.hid (.none (by omega) hno.out)
      go_wp2_with fail
      go_ret
      exact ⟨⟨_, rfl, hM.out⟩, by first | rfl | trivial⟩

set_option maxRecDepth 100000 in
theorem rhas_any (w : World) (a : Option Addr) (n c : Nat) (l : List Nat) (x : Nat) (h : IsI w (.slice a n c) l) :
    Calls Tryz.prog 11 #[.slice a n c, .int .u64 x] w fun e w' => e = .returned (.bool (decide (x ∈ l))) ∧ w = w' := by
  obtain ⟨rfl, hlc, hl⟩ := h.len
  go_enter Tryz.func11, Tryz.ntmps11
  go_wp2_with fail
  go_loopw [5] (fun i wr => w = wr ∧ ∃ k : Nat, k ≤ l.length ∧ i = .int .i64 k ∧ Hid (∀ i (hi : i < l.length), i < k → l[i] ≠ x)) (fun i _ => l.length - (intOf i).toNat)
  case atStart => exact ⟨rfl, 0, Nat.zero_le _, rfl, Lib.hid (fun _ _ h => absurd h (Nat.not_lt_zero _))⟩
  case round =>
    obtain ⟨rfl, k, hk, rfl, hno⟩ := hrel
    by_cases hlt : k < l.length
    · obtain ⟨g, o, rfl, hg, hc⟩ := h.at hlt
      obtain ⟨y, hy⟩ : ∃ y, l[k] = y := ⟨_, rfl⟩
      rw [hy] at hc
      have HY := Lib.hid hy
      clear hy
      by_cases hxy : y = x
      · have hM : Hid (x ∈ l) := Lib.hid (by rw [← hxy, ← HY.out]; exact List.getElem_mem hlt)
        subst hxy
        go_wp2_with fail
        go_ret
        exact ⟨by simp [hM.out], rfl⟩
      · have hxy2 : ((y : Int) == (x : Int)) = false := by simp; omega
        go_wp2_with fail
        go_roundw
        case rel => exact ⟨(by first | rfl | trivial), k + 1, by omega, by go_num, Lib.hid (fun i hi hik => by
          rcases Nat.lt_or_ge i k with h | h
          · exact hno.out i hi h
          · obtain rfl : i = k := by omega
            rw [HY.out]; exact hxy)⟩
        case measure => simp [intOf]; omega
    · have hM : Hid (x ∉ l) := Lib.hid (fun hm => by
        obtain ⟨i, hi, e⟩ := List.getElem_of_mem hm
        exact hno.out i hi (by omega) e)
      go_wp2_with fail
      go_ret
      exact ⟨by simp [hM.out], by first | rfl | trivial⟩

set_option maxRecDepth 100000 in
theorem same_any (w : World) (a a2 : Option Addr) (n c n2 c2 : Nat) (l l2 : List Nat) (h : IsI w (.slice a n c) l) (h2 : IsI w (.slice a2 n2 c2) l2) :
    Calls Tryz.prog 18 #[.slice a n c, .slice a2 n2 c2] w fun e w' => e = .returned (.bool (decide (l = l2))) ∧ Kept (fun _ => False) w w' := by
  obtain ⟨rfl, hlc, hl⟩ := h.len
  obtain ⟨rfl, hlc2, hl2⟩ := h2.len
  by_cases hn : l.length = l2.length
  · have HN := Lib.hid hn
    obtain ⟨n, hnn⟩ : ∃ n, l.length = n := ⟨_, rfl⟩
    have hnn2 := hn.symm.trans hnn
    rw [hnn] at h hlc hl ⊢
    rw [hnn2] at h2 hlc2 hl2 ⊢
    have HNN := Lib.hid hnn
    have HH := Lib.hid h
    have HH2 := Lib.hid h2
    clear hn hnn hnn2 h h2
    go_enter Tryz.func18, Tryz.ntmps18
    go_wp2_with fail
    go_loopw [13] (fun i wr => ∃ k : Nat, k ≤ n ∧ i = .int .i64 k ∧ Hid (Kept (fun _ => False) w wr) ∧ Hid (∀ i (hi : i < l.length) (hi2 : i < l2.length), i < k → l[i] = l2[i])) (fun i _ => n - (intOf i).toNat)
    case atStart => exact ⟨0, Nat.zero_le _, rfl, Lib.hid (Kept.refl _ _), Lib.hid (fun _ _ _ h => absurd h (Nat.not_lt_zero _))⟩
    case round =>
      obtain ⟨k, hk, rfl, HK, hno⟩ := hrel
      by_cases hlt : k < n
      · have q1 : k < l.length := by have := HNN.out; omega
        have q2 : k < l2.length := by have := HNN.out; have := HN.out; omega
        obtain ⟨g, o, rfl, hg, hc⟩ := (HH.out.keptN HK.out).at q1
        obtain ⟨g2, o2, rfl, hg2, hc2⟩ := (HH2.out.keptN HK.out).at q2
        obtain ⟨x, hx⟩ : ∃ x, l[k] = x := ⟨_, rfl⟩
        obtain ⟨y, hy⟩ : ∃ y, l2[k] = y := ⟨_, rfl⟩
        rw [hx] at hc
        rw [hy] at hc2
        have HX := Lib.hid hx
        have HY := Lib.hid hy
        have b1 : (0 : Int) ≤ (k : Int) := by omega
        have b2 : (k : Int) < (n : Int) := by omega
        clear hx hy hg hg2
        go_wp2_with fail
        go_quiet (fail)
        generalize hwd : World.drewN wr _ = wd
        have HKD : Hid (Kept (fun _ => False) w wd) := Lib.hid (by rw [← hwd]; exact HK.out.drewN _)
        clear hwd
        by_cases hxy : x = y
        · have HXY := Lib.hid hxy
          subst hxy
          go_wp2_with fail
          go_roundw
          case rel => exact ⟨k + 1, by omega, by go_num, HKD, Lib.hid (fun i hi hi2 hik => by
            rcases Nat.lt_or_ge i k with h | h
            · exact hno.out i hi hi2 h
            · obtain rfl : i = k := by omega
              rw [HX.out, HY.out])⟩
          case measure => simp [intOf]; omega
        · have hxy2 : ((x : Int) != (y : Int)) = true := by simp; omega
          have hM : Hid (l ≠ l2) := Lib.hid (fun e => by subst e; exact hxy (HX.out.symm.trans HY.out))
          go_wp2_with fail
          go_ret
          exact ⟨by simp [hM.out], HKD.out⟩
      · have hM : Hid (l = l2) := Lib.hid (List.ext_getElem HN.out (fun i hi hi2 => hno.out i hi hi2 (by have := HNN.out; omega)))
        go_wp2_with fail
        go_ret
        exact ⟨by simp [hM.out], HK.out⟩
  · have hM : Hid (l ≠ l2) := Lib.hid (fun e => hn (by rw [e]))
    have hb : ((l.length : Int) != (l2.length : Int)) = true := by simp; omega
    clear hn
    go_enter Tryz.func18, Tryz.ntmps18
    go_wp2_with fail
    go_ret
    exact ⟨by simp [hM.out], Kept.refl _ _⟩
end Go.Proofs.YtikacgiccllolaaGreat
