/- graph, espalierref11: the contracts once more, errors and answers in one form. -/
import Derived.Test.YtikacgiccllolaaLawOrd
import Derived.Test.YtikacgiccllolaaNodF
namespace Go.Proofs.Ytikacgiccllolaa
open Go.RowKit Go.ChangeMaps Go.MapKept

abbrev OrdR := Except Int (List Nat)
def codeE : OrdR → Int
  | .ok _ => 0
  | .error c => c
def okL : OrdR → List Nat
  | .ok o => o
  | .error _ => []
/-- No error is 0. -/
def Sound (R : OrdR) : Prop := codeE R = 0 → ∃ o, R = .ok o
def ordU (w' : World) (n0 : Nat) (e : Ending) (R : OrdR) : Prop := (∃ v, e = .returned (.tuple #[v, .int .i64 (codeE R)]) ∧ OwnI n0 w' v (okL R)) ∧ Sound R
theorem orderE_u {w' : World} {n0 : Nat} {e : Ending} {R : OrdR} (h : orderE w' n0 e R) : ordU w' n0 e R := by
  cases R with
  | ok o => obtain ⟨v, h1, h2⟩ := h; exact ⟨⟨v, h1, h2⟩, fun _ => ⟨o, rfl⟩⟩
  | error c => obtain ⟨h1, h2⟩ := h; exact ⟨⟨_, h1, OwnI.none _ _⟩, fun h => absurd h h2⟩
def yesE (R1 R2 : OrdR) (a : Nat) : Bool := match R1, R2 with | .ok _, .ok o => decide (a ∈ o) | _, _ => false
def wayE (N : List NodeM) (R1 R2 : OrdR) (a b : Nat) : Nat := match R1, R2 with | .ok _, .ok o => wayF (parN N) a o b | _, _ => 0
def depE2 (N : List NodeM) (R2 : OrdR) (b : Nat) : Nat := match R2 with | .ok o => depF (parN N) o b | .error _ => 0
theorem ancE_u {N : List NodeM} {Fu a b : Nat} {e : Ending} {R : OrdR} (h : ancE N Fu a b e R) : e = .returned (.tuple #[.bool (yesE R (orderR N Fu [b]) a), .int .i64 (codeE R)]) ∧ Sound R := by
  cases R with
  | ok o => obtain ⟨o2, h1, h2⟩ := h; rw [h1]; exact ⟨h2, fun _ => ⟨o, rfl⟩⟩
  | error c => obtain ⟨h1, h2⟩ := h; exact ⟨h1, fun h => absurd h h2⟩
theorem linE_u {N : List NodeM} {Fu a b : Nat} {e : Ending} {R : OrdR} (h : linE N Fu a b e R) : e = .returned (.tuple #[.int .i64 (wayE N R (orderR N Fu [b]) a b : Nat), .int .i64 (codeE R)]) ∧ Sound R := by
  cases R with
  | ok o => obtain ⟨o2, h1, h2⟩ := h; rw [h1]; exact ⟨h2, fun _ => ⟨o, rfl⟩⟩
  | error c => obtain ⟨h1, h2⟩ := h; exact ⟨h1, fun h => absurd h h2⟩
theorem depE_u {N : List NodeM} {b : Nat} {e : Ending} {R : OrdR} (h : depE N b e R) : e = .returned (.tuple #[.int .i64 (depE2 N R b : Nat), .int .i64 (codeE R)]) := by
  cases R with
  | ok o => exact h
  | error c => exact h.1
/-- What is gone through from one commit ends with it. -/
theorem orderR_last {N : List NodeM} {Fu b : Nat} {o : List Nat} (h : orderR N Fu [b] = .ok o) : ∃ o', o = o' ++ [b] := by
  have h1 : foldE (headF N Fu) [b] [] = .ok o := h
  simp only [foldE, headF] at h1
  cases hf : fromR N (Fu + 1) b [] [] with
  | error e => rw [hf] at h1; cases h1
  | ok o1 =>
    rw [hf] at h1
    cases h1
    rw [fromR, if_neg (by simp)] at hf
    cases hn : findN N b with
    | none => rw [hn] at hf; cases hf
    | some d =>
      rw [hn] at hf
      simp only at hf
      split at hf
      · cases hf
      · split at hf
        · cases hf; exact ⟨_, rfl⟩
        · cases hf
theorem okL_lt {os : List OM} {Fu : Nat} {hs : List Nat} : ∀ x ∈ okL (orderR (nodesO os) Fu hs), x < 18446744073709551616 := by
  cases h : orderR (nodesO os) Fu hs with
  | error c => simp [okL]
  | ok o => exact (orderR_ok h).1.lt
section
variable {w : World} {Hb s : Nat} {F : Nat → Prop} {st : HSt} {na ia ta : Option Addr} {nc ic tc : Nat} {S : List NdM}
theorem HistAt.order_u (h : HistAt w Hb s F st na ia ta nc ic tc S) (a : Option Addr) (n c : Nat) (hs : List Nat) (hI : IsI w (.slice a n c) hs) :
    Calls Try.prog 12 #[.pointer (some ⟨s, 0, none⟩), .slice a n c] w fun e w' => ordU w' w.heap.size e (orderR (nodesO st.os) st.os.length hs) ∧ Kept (fun _ => False) w w' := by
  obtain ⟨rfl, -⟩ := hI.len
  exact (order_any h.ob (by have := h.sl.2.1; omega) a c hs hI).mono (fun e w' ⟨h1, h2⟩ => ⟨orderE_u h1, h2⟩)
theorem HistAt.rorder_u (h : HistAt w Hb s F st na ia ta nc ic tc S) (a : Option Addr) (n c : Nat) (hs : List Nat) (hI : IsI w (.slice a n c) hs) (hz : zId ∉ hs) :
    Calls Try.prog 11 #[.slice na S.length nc, .slice a n c] w fun e w' => ordU w' w.heap.size e (orderR (nodesO st.os) st.os.length hs) ∧ Kept (fun _ => False) w w' := by
  have hsl := h.sl
  refine (rorder_any w na S.length nc S a n c hs st.os.length h.nd (by omega) hI (by have := hsl.2.2; simp [nodesO] at this; omega)).mono (fun e w' ⟨h1, h2⟩ => ⟨?_, h2⟩)
  rw [h.orders hs hz] at h1
  exact orderE_u h1
theorem HistAt.ancestor_u (h : HistAt w Hb s F st na ia ta nc ic tc S) (a b : Nat) (ha : a < 18446744073709551616) (hb : b < 18446744073709551616) :
    Calls Try.prog 14 #[.pointer (some ⟨s, 0, none⟩), .int .u64 a, .int .u64 b] w fun e w' => (e = .returned (.tuple #[.bool (yesE (orderR (nodesO st.os) st.os.length [a, b]) (orderR (nodesO st.os) st.os.length [b]) a), .int .i64 (codeE (orderR (nodesO st.os) st.os.length [a, b]))]) ∧ Sound (orderR (nodesO st.os) st.os.length [a, b])) ∧ Kept (fun _ => False) w w' :=
  (ancestor_any h.ob (by have := h.sl.2.1; omega) a b ha hb).mono (fun e w' ⟨h1, h2⟩ => ⟨ancE_u h1, h2⟩)
theorem HistAt.lines_u (h : HistAt w Hb s F st na ia ta nc ic tc S) (a b : Nat) (ha : a < 18446744073709551616) (hb : b < 18446744073709551616) :
    Calls Try.prog 15 #[.pointer (some ⟨s, 0, none⟩), .int .u64 a, .int .u64 b] w fun e w' => (e = .returned (.tuple #[.int .i64 (wayE (nodesO st.os) (orderR (nodesO st.os) st.os.length [a, b]) (orderR (nodesO st.os) st.os.length [b]) a b : Nat), .int .i64 (codeE (orderR (nodesO st.os) st.os.length [a, b]))]) ∧ Sound (orderR (nodesO st.os) st.os.length [a, b])) ∧ Kept (fun _ => False) w w' :=
  (lines_any h.ob (by have := h.sl.2.1; omega) a b ha hb).mono (fun e w' ⟨h1, h2⟩ => ⟨linE_u h1, h2⟩)
theorem HistAt.depth_u (h : HistAt w Hb s F st na ia ta nc ic tc S) (b : Nat) (hb : b < 18446744073709551616) :
    Calls Try.prog 16 #[.pointer (some ⟨s, 0, none⟩), .int .u64 b] w fun e w' => e = .returned (.tuple #[.int .i64 (depE2 (nodesO st.os) (orderR (nodesO st.os) st.os.length [b]) b : Nat), .int .i64 (codeE (orderR (nodesO st.os) st.os.length [b]))]) ∧ Kept (fun _ => False) w w' :=
  (depth_any h.ob (by have := h.sl.2.1; omega) b hb).mono (fun e w' ⟨h1, h2⟩ => ⟨depE_u h1, h2⟩)
/-- What is in order for the program is in order for the reference. -/
theorem HistAt.topoD (h : HistAt w Hb s F st na ia ta nc ic tc S) {hs o : List Nat} (hz : zId ∉ hs) (ho : orderR (nodesO st.os) st.os.length hs = .ok o) : Topo (nodesD S) o ∧ o.length ≤ 100000 := by
  rw [← h.orders hs hz] at ho
  have ht := (orderR_ok ho).1
  have := ht.len
  have hsl := h.sl
  simp [nodesD] at this
  exact ⟨ht, by omega⟩
theorem HistAt.rdepth_u (h : HistAt w Hb s F st na ia ta nc ic tc S) {b : Nat} (hz : zId ≠ b) {o : List Nat} (ho : orderR (nodesO st.os) st.os.length [b] = .ok o) (oa : Option Addr) (on oc : Nat) (hI : IsI w (.slice oa on oc) o) :
    Calls Try.prog 17 #[.slice na S.length nc, .slice oa on oc, .int .u64 b] w fun e w' => e = .returned (.int .i64 (depE2 (nodesO st.os) (orderR (nodesO st.os) st.os.length [b]) b : Nat)) ∧ Kept (fun _ => False) w w' := by
  obtain ⟨ht, hl⟩ := h.topoD (by simpa using hz) ho
  have hb : b ∈ o := ((orderR_ok ho).2 b).2 ⟨b, by simp, .refl _⟩
  have h9 := rdepth_any w w.heap.size na S.length nc S oa on oc o b h.nd hI ht hb hl
  rw [ho]
  have e : depF (parN (nodesD S)) o b = depE2 (nodesO st.os) (.ok o) b := by
    show depF (parN (nodesD S)) o b = depF (parN (nodesO st.os)) o b
    rw [h.ndS] at ht ⊢
    exact (congrFun (h.ok.dep ht) b).symm
  rw [e] at h9
  exact h9
theorem HistAt.rlines_u (h : HistAt w Hb s F st na ia ta nc ic tc S) {a b : Nat} (hz : zId ≠ b) {o : List Nat} (ho : orderR (nodesO st.os) st.os.length [b] = .ok o) (oa : Option Addr) (on oc : Nat) (hI : IsI w (.slice oa on oc) o) :
    Calls Try.prog 19 #[.slice na S.length nc, .slice oa on oc, .int .u64 a] w fun e w' => e = .returned (.int .i64 (wayF (parN (nodesO st.os)) a o b : Nat)) ∧ Kept (fun _ => False) w w' := by
  obtain ⟨ht, hl⟩ := h.topoD (by simpa using hz) ho
  obtain ⟨o', ho'⟩ := orderR_last ho
  have h9 := rlines_any w w.heap.size na S.length nc S oa on oc o a b h.nd hI ht o'.length (by rw [ho']; simp) (fun hlt => by subst ho'; simp) hl
  have e : wayF (parN (nodesD S)) a o b = wayF (parN (nodesO st.os)) a o b := by
    rw [h.ndS] at ht ⊢
    exact (congrFun (h.ok.way ht a) b).symm
  rw [e] at h9
  exact h9
end
end Go.Proofs.Ytikacgiccllolaa
