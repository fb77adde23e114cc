/- graph: walk, Order, parents. -/
import Derived.Test.YtikacgiccllolaaGreatFromD
namespace Go.Proofs.YtikacgiccllolaaGreat
open Go.RowKit Go.ChangeMaps Go.MapKept

def walkE (w' : World) (n0 s : Nat) (F : Nat → Prop) (os : List OM) (e : Ending) : Except Int (List Nat) → Prop
  | .ok o => ∃ Wb M es clock ov L, e = .returned (.tuple #[.pointer (some ⟨Wb, 0, none⟩), .int .i64 0]) ∧ WalkAt w' n0 s F os Wb M es clock ov L o []
  | .error c => e = .returned (.tuple #[.pointer none, .int .i64 c]) ∧ c ≠ 0
theorem Topo.good {N : List NodeM} {o : List Nat} (h : Topo N o) : GoodP N o [] := ⟨by simpa using h.nodup, fun x hx => by
  have hx' : x ∈ o := by simpa using hx
  cases h.fine x hx' with
  | mk hf _ _ => exact ⟨_, hf⟩⟩
def headF (N : List NodeM) (Fu : Nat) : Nat → List Nat → Except Int (List Nat) := fun h o => fromR N (Fu + 1) h o []
theorem foldE_nil (f : Nat → List Nat → Except Int (List Nat)) (hs : List Nat) (o : List Nat) : foldE f (hs.drop hs.length) o = .ok o := by rw [List.drop_length]; rfl
theorem foldE_at {f : Nat → List Nat → Except Int (List Nat)} {hs : List Nat} {k : Nat} (hk : k < hs.length) {x : Nat} (hx : hs[k] = x) (o : List Nat) : foldE f (hs.drop k) o = match f x o with | .ok o' => foldE f (hs.drop (k + 1)) o' | .error e => .error e := by
  rw [List.drop_eq_getElem_cons hk, hx]
  rfl
set_option maxRecDepth 100000 in
theorem walk_any {w : World} {s : Nat} {F : Nat → Prop} {os : List OM} (h : ObAt w s F os) (hos : os.length ≤ 100000) (a : Option Addr) (c : Nat) (hs : List Nat) (hI : IsI w (.slice a hs.length c) hs) :
    Calls Tryz.prog 30 #[.pointer (some ⟨s, 0, none⟩), .slice a hs.length c] w fun e w' => walkE w' w.heap.size s F os e (orderR (nodesO os) os.length hs) ∧ Kept (fun _ => False) w w' := by
  have hl63 : hs.length ≤ 9223372036854775807 := by obtain ⟨_, _, e, h1, h2, -⟩ := hI; cases e; unfold maxLen at h2; omega
  obtain ⟨R, hR⟩ : ∃ R, orderR (nodesO os) os.length hs = R := ⟨_, rfl⟩
  rw [hR]
  obtain ⟨W1, hW1⟩ : ∃ W, w.alloc (.map #[] 0) = W := ⟨_, rfl⟩
  have hk1 : Kept (fun _ => False) w W1 := by rw [← hW1]; exact (Kept.refl _ _).alloc _
  have hs1 : W1.heap.size = w.heap.size + 1 := by rw [← hW1]; simp
  have hb1 : W1.heap[w.heap.size]? = some (.map #[] 0) := by rw [← hW1]; exact heap_alloc_new _ _
  obtain ⟨W2, hW2⟩ : ∃ W, W1.alloc (.cells #[.pointer (some ⟨s, 0, none⟩), .map (some w.heap.size), .slice none 0 0] 84) = W := ⟨_, rfl⟩
  have hk2 : Kept (fun _ => False) W1 W2 := by rw [← hW2]; exact (Kept.refl _ _).alloc _
  have hb2 : W2.heap[w.heap.size + 1]? = some (.cells #[.pointer (some ⟨s, 0, none⟩), .map (some w.heap.size), .slice none 0 0] 84 (0, 0)) := by rw [← hW2, ← hs1]; exact heap_alloc_new _ _
  have hk12 := hk1.more hk2 (fun _ f => f.elim)
  have hWA : WalkAt W2 w.heap.size s F os (w.heap.size + 1) w.heap.size #[] 0 (.slice none 0 0) [] [] [] :=
    ⟨h.keptN hk12, h.lt, by omega, Nat.le_refl _, hb2, (hk2.block _ (by omega) (fun f => f)).trans hb1, stamped_empty 0, trivial, fun x => rfl, OwnI.none _ _⟩
  have HWA := Lib.hid hWA
  have HI : Hid (∀ k (hk : k < hs.length), ∃ g o, a = some ⟨g, o, none⟩ ∧ g < w.heap.size ∧ w.cell? ⟨g, o + k, none⟩ = some (.int .u64 (hs[k] : Nat))) := Lib.hid (fun k hk => hI.at hk)
  have HR : Hid (foldE (headF (nodesO os) os.length) (hs.drop 0) [] = R) := Lib.hid hR
  have HK := Lib.hid hk12
  clear hWA hb1 hb2 hk1 hk2 hk12 hI hR
  have hmm := @run_makeMap Tryz.prog
  go_enter Tryz.func30, Tryz.ntmps30
  go_wp2_with fail
  go_loopw [18] (fun i wr => ∃ k Wb M es clock ov L o, k ≤ hs.length ∧ i = .int .i64 k ∧ (Wb = w.heap.size + 1) ∧ Hid (WalkAt wr w.heap.size s F os Wb M es clock ov L o []) ∧ Hid (Topo (nodesO os) o ∧ foldE (headF (nodesO os) os.length) (hs.drop k) o = R) ∧ Hid (Kept (fun _ => False) w wr)) (fun i _ => hs.length - (intOf i).toNat)
  case atStart => exact ⟨0, _, _, _, _, _, _, _, Nat.zero_le _, rfl, rfl, HWA, Lib.hid ⟨.nil, HR.out⟩, HK⟩
  case round =>
    clear HWA HR HK
    obtain ⟨k, Wb, M, es, clock, ov, L, o, hk, rfl, rfl, HWA, HR, HK⟩ := hrel
    by_cases hlt : k < hs.length
    · obtain ⟨g, off, rfl, hg, hc⟩ := HI.out k hlt
      obtain ⟨x, hx⟩ : ∃ x, hs[k] = x := ⟨_, rfl⟩
      rw [hx] at hc
      have hc' := HK.out.cell hc (fun f => f)
      have HFR := Lib.hid (from_any HWA.out x HR.out.1.good os.length (Nat.le_refl _) hos)
      have HST := Lib.hid (foldE_at (f := headF (nodesO os) os.length) hlt hx o)
      have HT := Lib.hid (fun o' (h' : fromR (nodesO os) (os.length + 1) x o [] = .ok o') => (fromR_went _ x o [] o' HR.out.1 (by simp) h').1.topo)
      clear hc hx hg
      go_wp2_with fail
      refine HFR.out.mono ?_
      rintro e w2 ⟨he, hk2⟩
      have HK2 : Hid (Kept (fun _ => False) w w2) := Lib.hid (HK.out.more hk2 (fun _ h => h))
      rcases hr : fromR (nodesO os) (os.length + 1) x o [] with c2 | o2
      · rw [hr] at he
        obtain ⟨rfl, hc0⟩ := he
        have HRR : R = .error c2 := by
          have h1 := HR.out.2
          rw [HST.out] at h1
          unfold headF at h1
          rw [hr] at h1
          exact h1.symm
        have hcb : (c2 != 0) = true := by simp [hc0]
        have HC0 := Lib.hid hc0
        clear hr hc0
        subst HRR
        go_wp2_with fail
        go_ret2
        exact ⟨⟨rfl, HC0.out⟩, HK2.out⟩
      · rw [hr] at he
        obtain ⟨rfl, es2, clock2, ov2, L2, hW2⟩ := he
        have HW2 := Lib.hid hW2
        have HR2 : Hid (Topo (nodesO os) o2 ∧ foldE (headF (nodesO os) os.length) (hs.drop (k + 1)) o2 = R) := Lib.hid ⟨HT.out _ hr, by
          have h1 := HR.out.2
          rw [HST.out] at h1
          unfold headF at h1 ⊢
          rw [hr] at h1
          exact h1⟩
        clear hr hW2
        go_wp2_with fail
        go_roundw
        case rel => exact ⟨k + 1, _, _, _, _, _, _, _, by omega, by go_num, rfl, HW2, HR2, HK2⟩
        case measure => simp [intOf]; omega
    · have HRR : R = .ok o := by
        have h1 := HR.out.2
        obtain rfl : k = hs.length := by omega
        rw [foldE_nil] at h1
        exact h1.symm
      subst HRR
      go_wp2_with fail
      go_ret2
      exact ⟨⟨_, _, _, _, _, _, rfl, HWA.out⟩, HK.out⟩

def orderE (w' : World) (n0 : Nat) (e : Ending) : Except Int (List Nat) → Prop
  | .ok o => ∃ v, e = .returned (.tuple #[v, .int .i64 0]) ∧ OwnI n0 w' v o
  | .error c => e = .returned (.tuple #[.slice none 0 0, .int .i64 c]) ∧ c ≠ 0
set_option maxRecDepth 100000 in
theorem order_any {w : World} {s : Nat} {F : Nat → Prop} {os : List OM} (h : ObAt w s F os) (hos : os.length ≤ 100000) (a : Option Addr) (c : Nat) (hs : List Nat) (hI : IsI w (.slice a hs.length c) hs) :
    Calls Tryz.prog 12 #[.pointer (some ⟨s, 0, none⟩), .slice a hs.length c] w fun e w' => orderE w' w.heap.size e (orderR (nodesO os) os.length hs) ∧ Kept (fun _ => False) w w' := by
  have hW := Lib.hid (walk_any h hos a c hs hI)
  generalize orderR (nodesO os) os.length hs = R at *
  go_enter Tryz.func12, Tryz.ntmps12
  go_wp2_with fail
  refine hW.out.mono ?_
  rintro e w1 ⟨he, hk⟩
  cases R with
  | error c2 =>
    obtain ⟨rfl, hc0⟩ := he
    have hcb : (c2 != 0) = true := by simp [hc0]
    have HC0 := Lib.hid hc0
    clear hc0
    go_wp2_with fail
    go_ret2
    exact ⟨⟨rfl, HC0.out⟩, hk⟩
  | ok o =>
    obtain ⟨Wb, M, es, clock, ov, L, rfl, hw⟩ := he
    obtain ⟨c0, c1, c2, -⟩ := hw.c
    have HW := Lib.hid hw
    clear hw
    go_wp2_with fail
    go_ret2
    exact ⟨⟨_, rfl, HW.out.ord⟩, hk⟩

set_option maxRecDepth 100000 in
theorem parents_any {w : World} {s : Nat} {F : Nat → Prop} {os : List OM} (h : ObAt w s F os) (id : Nat) :
    Calls Tryz.prog 36 #[.pointer (some ⟨s, 0, none⟩), .int .u64 id] w fun e w' => ∃ u, e = .returned u ∧ OwnI w.heap.size w' u (comR os id).2.1 ∧ Kept (fun _ => False) w w' := by
  have hC := Lib.hid (scommit_any h id)
  generalize comR os id = R at *
  obtain ⟨t, ps, d, c⟩ := R
  simp only at hC ⊢
  go_enter Tryz.func36, Tryz.ntmps36
  go_wp2_with fail
  refine hC.out.mono ?_
  rintro e w1 ⟨u, rfl, hu, hk1⟩
  obtain ⟨ua, uc, rfl, -, -⟩ := hu.form
  have HU := Lib.hid hu
  clear hu
  unfold comV
  go_wp2_with fail
  go_ret
  exact ⟨_, rfl, HU.out.keptF ((Kept.refl (fun _ => False) w1).alloc _) (fun _ _ f => f), hk1.alloc _⟩
end Go.Proofs.YtikacgiccllolaaGreat

/- graph: Ancestor. -/
namespace Go.Proofs.YtikacgiccllolaaGreat
open Go.RowKit Go.ChangeMaps Go.MapKept

theorem Topo.lt {os : List OM} {o : List Nat} (h : Topo (nodesO os) o) : ∀ x ∈ o, x < 18446744073709551616 := fun x hx => by
  cases h.fine x hx with
  | @mk _ d hf _ _ =>
    rw [findN_nodes] at hf
    cases ho : findO os x with
    | none => rw [ho] at hf; cases hf
    | some y =>
      rw [← (findO_mem ho).2]
      exact idB_lt _
theorem ids_new (w : World) (l : List Nat) (hl : ∀ x ∈ l, x < 18446744073709551616) (hm : l.length ≤ maxLen) (vs : Array Value) (hv : vs = (idsV l).toArray) : IsI (w.alloc (.cells vs 37)) (.slice (some ⟨w.heap.size, 0, none⟩) l.length l.length) l := by
  subst hv
  refine ⟨_, _, rfl, Nat.le_refl _, hm, hl, .inr ⟨w.heap.size, 0, rfl, by simp, fun i x hx => ?_⟩⟩
  rw [Nat.zero_add, World.cell?_alloc_new]
  simpa using hx
theorem pair_ok {N : List NodeM} {Fu : Nat} (hF : N.length ≤ Fu) {a b : Nat} {o : List Nat} (h : orderR N Fu [a, b] = .ok o) : ∃ o2, orderR N Fu [b] = .ok o2 := by
  have h1 := (orderR_iff hF).1 ⟨_, h⟩
  exact (orderR_iff hF).2 (fun s hs => h1 s (by simp at hs ⊢; exact .inr hs))
def ancE (N : List NodeM) (Fu a b : Nat) (e : Ending) : Except Int (List Nat) → Prop
  | .ok _ => ∃ o, orderR N Fu [b] = .ok o ∧ e = .returned (.tuple #[.bool (decide (a ∈ o)), .int .i64 0])
  | .error c => e = .returned (.tuple #[.bool false, .int .i64 c]) ∧ c ≠ 0
set_option maxRecDepth 100000 in
theorem ancestor_any {w : World} {s : Nat} {F : Nat → Prop} {os : List OM} (h : ObAt w s F os) (hos : os.length ≤ 100000) (a b : Nat) (ha : a < 18446744073709551616) (hb : b < 18446744073709551616) :
    Calls Tryz.prog 13 #[.pointer (some ⟨s, 0, none⟩), .int .u64 a, .int .u64 b] w fun e w' => ancE (nodesO os) os.length a b e (orderR (nodesO os) os.length [a, b]) ∧ Kept (fun _ => False) w w' := by
  have hk1 : Kept (fun _ => False) w (w.alloc (.cells #[.int .u64 a, .int .u64 b] 37)) := (Kept.refl _ _).alloc _
  have hW := Lib.hid (walk_any (h.keptN hk1) hos _ _ [a, b] (ids_new w [a, b] (by simp [ha, hb]) (by simp [maxLen]) _ rfl))
  have HO : Hid (∀ W, Kept (fun _ => False) w W → Calls Tryz.prog 12 #[.pointer (some ⟨s, 0, none⟩), .slice (some ⟨W.heap.size, 0, none⟩) 1 1] (W.alloc (.cells #[.int .u64 b] 37)) fun e w' => orderE w' (W.heap.size + 1) e (orderR (nodesO os) os.length [b]) ∧ Kept (fun _ => False) W w') := Lib.hid (fun W hk => by
    have hkW : Kept (fun _ => False) W (W.alloc (.cells #[.int .u64 b] 37)) := (Kept.refl _ _).alloc _
    have h9 := order_any ((h.keptN hk).keptN hkW) hos _ _ [b] (ids_new W [b] (by simp [hb]) (by simp [maxLen]) _ rfl)
    refine h9.mono ?_
    rintro e w' ⟨h1, h2⟩
    rw [show (W.alloc (.cells #[.int .u64 b] 37)).heap.size = W.heap.size + 1 from by simp] at h1
    exact ⟨h1, hkW.more h2 (fun _ f => f.elim)⟩)
  have HP := Lib.hid (fun o => @pair_ok (nodesO os) os.length (by simp [nodesO]) a b o)
  have HB : Hid (∀ o, orderR (nodesO os) os.length [b] = .ok o → ∀ x ∈ o, x < 18446744073709551616) := Lib.hid (fun o h => (orderR_ok h).1.lt)
  have HK := Lib.hid hk1
  generalize orderR (nodesO os) os.length [a, b] = R at *
  clear h hk1
  go_enter Tryz.func13, Tryz.ntmps13
  go_wp2_with fail
  refine hW.out.mono ?_
  rintro e w1 ⟨he, hk⟩
  have HK1 : Hid (Kept (fun _ => False) w w1) := Lib.hid (HK.out.more hk (fun _ f => f.elim))
  clear hk
  cases R with
  | error c2 =>
    obtain ⟨rfl, hc0⟩ := he
    have hcb : (c2 != 0) = true := by simp [hc0]
    have HC0 := Lib.hid hc0
    clear hc0
    go_wp2_with fail
    go_ret2
    exact ⟨⟨rfl, HC0.out⟩, HK1.out⟩
  | ok o =>
    obtain ⟨Wb, M, es, clock, ov, L, rfl, -⟩ := he
    obtain ⟨o2, ho2⟩ := HP.out o rfl
    have HO2 := Lib.hid ho2
    go_wp2_with fail
    refine (HO.out w1 HK1.out).mono ?_
    rintro e w2 ⟨he, hk⟩
    rw [HO2.out] at he
    obtain ⟨v, rfl, ho⟩ := he
    have HK2 : Hid (Kept (fun _ => False) w w2) := Lib.hid (HK1.out.more hk (fun _ f => f.elim))
    obtain ⟨va, vc, rfl, -, -⟩ := ho.form
    have HCO := Lib.hid (contains_any w2 va vc o2 a (ho.isI (HB.out o2 HO2.out)))
    clear ho hk ho2
    go_wp2_with fail
    refine HCO.out.mono ?_
    rintro e w3 ⟨rfl, rfl⟩
    go_wp2_with fail
    go_ret2
    exact ⟨⟨_, HO2.out, rfl⟩, HK2.out⟩
end Go.Proofs.YtikacgiccllolaaGreat
