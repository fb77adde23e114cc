/- graph: Lines. -/
import Derived.Test.YtikacgiccllolaaDepA
namespace Go.Proofs.Ytikacgiccllolaa
open Go.RowKit Go.ChangeMaps Go.MapKept

theorem foldl_add_bd (l : List Nat) (m : Nat → Nat) : ∀ a, a ≤ 4611686018427387904 → l.foldl (fun a p => addW a (m p)) a ≤ 4611686018427387904 := by
  induction l with
  | nil => intro a ha; exact ha
  | cons q l ih => intro a ha; exact ih (addW a (m q)) (by unfold addW; omega)
theorem way_le (par : Nat → List Nat) (t : Nat) (o : List Nat) : ∀ k, k ≤ o.length → ∀ x, runF (wayS par t) (o.take k) (fun _ => 0) x ≤ 4611686018427387904 := by
  intro k
  induction k with
  | zero => intro _ x; simp [runF]
  | succ k ih =>
    intro hk x
    have hi := ih (by omega)
    rw [runF_take _ o (by omega) rfl]
    unfold setF
    split
    · unfold wayS
      split
      · omega
      · exact foldl_add_bd _ _ 0 (by omega)
    · exact hi x
def linE (N : List NodeM) (Fu a b : Nat) (e : Ending) : Except Int (List Nat) → Prop
  | .ok _ => ∃ o, orderR N Fu [b] = .ok o ∧ e = .returned (.tuple #[.int .i64 (wayF (parN N) a o b : Nat), .int .i64 0])
  | .error c => e = .returned (.tuple #[.int .i64 0, .int .i64 c]) ∧ c ≠ 0
set_option maxRecDepth 100000 in
set_option maxHeartbeats 1000000 in
theorem lines_any {w : World} {s : Nat} {F : Nat → Prop} {os : List OM} (h : ObAt w s F os) (hos : os.length ≤ 100000) (a b : Nat) (ha : a < 18446744073709551616) (hb : b < 18446744073709551616) :
    Calls Try.prog 15 #[.pointer (some ⟨s, 0, none⟩), .int .u64 a, .int .u64 b] w fun e w' => linE (nodesO os) os.length a b e (orderR (nodesO os) os.length [a, b]) ∧ Kept (fun _ => False) w w' := by
  have hk1 : Kept (fun _ => False) w (w.alloc (.cells #[.int .u64 a, .int .u64 b] 37)) := (Kept.refl _ _).alloc _
  have hW := Lib.hid (walk_any (h.keptN hk1) hos _ _ [a, b] (ids_new w [a, b] (by simp [ha, hb]) (by simp [maxLen]) _ rfl))
  have HO : Hid (∀ W, Kept (fun _ => False) w W → Calls Try.prog 12 #[.pointer (some ⟨s, 0, none⟩), .slice (some ⟨W.heap.size, 0, none⟩) 1 1] (W.alloc (.cells #[.int .u64 b] 37)) fun e w' => orderE w' (W.heap.size + 1) e (orderR (nodesO os) os.length [b]) ∧ Kept (fun _ => False) W w') := Lib.hid (fun W hk => by
    have hkW : Kept (fun _ => False) W (W.alloc (.cells #[.int .u64 b] 37)) := (Kept.refl _ _).alloc _
    have h9 := order_any ((h.keptN hk).keptN hkW) hos _ _ [b] (ids_new W [b] (by simp [hb]) (by simp [maxLen]) _ rfl)
    refine h9.mono ?_
    rintro e w' ⟨h1, h2⟩
    rw [show (W.alloc (.cells #[.int .u64 b] 37)).heap.size = W.heap.size + 1 from by simp] at h1
    exact ⟨h1, hkW.more h2 (fun _ f => f.elim)⟩)
  have HPK := Lib.hid (fun o => @pair_ok (nodesO os) os.length (by simp [nodesO]) a b o)
  have HT : Hid (∀ o, orderR (nodesO os) os.length [b] = .ok o → Topo (nodesO os) o ∧ o.length ≤ 100000) := Lib.hid (fun o h => ⟨(orderR_ok h).1, by have := (orderR_ok h).1.good.len; simp [nodesO] at this; omega⟩)
  have HK := Lib.hid hk1
  have HH := Lib.hid h
  generalize orderR (nodesO os) os.length [a, b] = R at *
  clear h hk1
  have hmm := @run_makeMap Try.prog
  go_enter Try.func15, Try.ntmps15
  go_wp2_with fail
  refine hW.out.mono ?_
  rintro e w0 ⟨he, hk⟩
  have HK0 : Hid (Kept (fun _ => False) w w0) := Lib.hid (HK.out.more hk (fun _ f => f.elim))
  clear hk
  cases R with
  | error c2 =>
    obtain ⟨rfl, hc0⟩ := he
    have hcb : (c2 != 0) = true := by simp [hc0]
    have HC0 := Lib.hid hc0
    clear hc0
    go_wp2_with fail
    go_ret2
    exact ⟨⟨rfl, HC0.out⟩, HK0.out⟩
  | ok o1 =>
    obtain ⟨Wb, M, es, clock, ov, L, rfl, -⟩ := he
    obtain ⟨o, ho2⟩ := HPK.out o1 rfl
    have HO2 := Lib.hid ho2
    go_wp2_with fail
    refine (HO.out w0 HK0.out).mono ?_
    rintro e w1 ⟨he, hk⟩
    rw [HO2.out] at he
    obtain ⟨v, rfl, ho⟩ := he
    have HK1 : Hid (Kept (fun _ => False) w w1) := Lib.hid (HK0.out.more hk (fun _ f => f.elim))
    obtain ⟨va, vc, rfl, -, -⟩ := ho.form
    obtain ⟨hT, hol⟩ := HT.out o HO2.out
    have HTo := Lib.hid hT
    have HIo := Lib.hid (ho.isI hT.lt)
    have HM0 : Hid (MapN (w1.alloc (.map #[] 0)) w1.heap.size #[] 0 [] (fun _ => 0)) := Lib.hid ⟨heap_alloc_new _ _, stamped_empty 0, trivial, fun x => rfl⟩
    have HK2 : Hid (Kept (fun _ => False) w1 (w1.alloc (.map #[] 0))) := Lib.hid ((Kept.refl _ _).alloc _)
    have hl63 : o.length ≤ 9223372036854775807 := by omega
    clear ho hT hk ho2
    go_wp2_with fail
    go_loopw [41] (fun i wr => ∃ k es clock L, k ≤ o.length ∧ i = .int .i64 k ∧ Hid (MapN wr w1.heap.size es clock L (runF (wayS (parN (nodesO os)) a) (o.take k) (fun _ => 0))) ∧ Hid (Kept (fun _ => False) w1 wr)) (fun i _ => o.length - (intOf i).toNat)
    case atStart => exact ⟨0, _, _, _, Nat.zero_le _, rfl, HM0, HK2⟩
    case round =>
      clear HM0 HK2
      obtain ⟨k, es, clock, L, hk, rfl, HM, HK2⟩ := hrel
      by_cases hlt : k < o.length
      · obtain ⟨g, off, rfl, hg, hc⟩ := (HIo.out.keptN HK2.out).at hlt
        obtain ⟨x, hx⟩ : ∃ x, o[k] = x := ⟨_, rfl⟩
        rw [hx] at hc
        have hm : x ∈ o := by rw [← hx]; exact List.getElem_mem hlt
        have HX : Hid (runF (wayS (parN (nodesO os)) a) (o.take k) (fun _ => 0) x = 0) := Lib.hid (runF_off _ _ _ _ (by rw [← hx]; exact topo_take_off HTo.out hlt))
        have HB : Hid (∀ y, runF (wayS (parN (nodesO os)) a) (o.take k) (fun _ => 0) y ≤ 4611686018427387904) := Lib.hid (way_le _ _ o k hk)
        have HP := Lib.hid (parents_any (HH.out.keptN (HK1.out.trans HK2.out (fun _ _ h => h))) x)
        rw [comR_parN HTo.out hm] at HP
        have HPX := Lib.hid (topo_self_off HTo.out hm)
        have HPL : Hid (∀ p ∈ parN (nodesO os) x, p < 18446744073709551616) := Lib.hid (fun p hp => HTo.out.lt p (HTo.out.closed x hm p (HTo.out.parN hm hp)))
        by_cases hxa : x = a
        · have HNX : Hid (runF (wayS (parN (nodesO os)) a) (o.take (k + 1)) (fun _ => 0) = setF (runF (wayS (parN (nodesO os)) a) (o.take k) (fun _ => 0)) x 1) := Lib.hid (by rw [runF_take (wayS (parN (nodesO os)) a) o hlt hx (fun _ => 0)]; unfold wayS; rw [if_pos hxa])
          generalize runF (wayS (parN (nodesO os)) a) (o.take k) (fun _ => 0) = m at *
          clear hx hg hm
          obtain ⟨es5, clock5, L5, hrun, hall⟩ := HM.out.set x 1
          have hrun := hrun wr HM.out.map
          have hall := hall wr HM.out.map
          rw [← HNX.out] at hall
          rw [show ((1 : Nat) : Int) = 1 from rfl] at hrun
          have HA := Lib.hid hall
          clear hall
          obtain rfl := hxa
          go_wp2_with fail
          go_roundw
          case rel => exact ⟨k + 1, _, _, _, by omega, by go_num, Lib.hid HA.out.1, Lib.hid (HK2.out.more HA.out.2 (fun i e => Nat.le_of_eq e.symm))⟩
          case measure => simp [intOf]; omega
        · have HNX : Hid (runF (wayS (parN (nodesO os)) a) (o.take (k + 1)) (fun _ => 0) = setF (runF (wayS (parN (nodesO os)) a) (o.take k) (fun _ => 0)) x ((parN (nodesO os) x).foldl (fun a_1 p => addW a_1 (runF (wayS (parN (nodesO os)) a) (o.take k) (fun _ => 0) p)) 0)) := Lib.hid (by rw [runF_take (wayS (parN (nodesO os)) a) o hlt hx (fun _ => 0)]; unfold wayS; rw [if_neg hxa])
          obtain ⟨ps, hps⟩ : ∃ ps, parN (nodesO os) x = ps := ⟨_, rfl⟩
          rw [hps] at HP HPX HPL HNX
          generalize runF (wayS (parN (nodesO os)) a) (o.take k) (fun _ => 0) = m at *
          have hxb : ((x : Int) == (a : Int)) = false := by simp; omega
          clear hx hg hm hps
          go_wp2_with fail
          refine HP.out.mono ?_
          rintro e w2 ⟨u, rfl, hu, hk2⟩
          obtain ⟨ua, uc, rfl, hul, huc⟩ := hu.form
          have HU := Lib.hid (hu.isI HPL.out)
          have HK3 : Hid (Kept (fun _ => False) w1 w2) := Lib.hid (HK2.out.more hk2 (fun _ f => f.elim))
          have HM3 : Hid (MapN w2 w1.heap.size es clock L (setF m x ((ps.take 0).foldl (fun a p => addW a (m p)) 0))) := Lib.hid (by
            have := HM.out.kept hk2 (fun f => f)
            rw [List.take_zero, List.foldl_nil, ← HX.out, setF_same]
            exact this)
          have HUB : Hid (∀ g, (Value.slice ua ps.length uc).ownBlock = some g → w1.heap.size < g) := Lib.hid (fun g e => by have := (hu.base e).1; have := HM.out.lt; omega)
          have hp63 : ps.length ≤ 9223372036854775807 := by unfold maxLen at huc; omega
          clear hu hk2 hul huc hc
          go_wp2_with fail
          go_loopw [54] (fun i wy => ∃ j es clock L, j ≤ ps.length ∧ i = .int .i64 j ∧ Hid (MapN wy w1.heap.size es clock L (setF m x ((ps.take j).foldl (fun a p => addW a (m p)) 0))) ∧ Hid (Kept (· = w1.heap.size) w2 wy)) (fun i _ => ps.length - (intOf i).toNat)
          case atStart => exact ⟨0, _, _, _, Nat.zero_le _, rfl, HM3, Lib.hid (Kept.refl _ _)⟩
          case round =>
            clear HM3 HM
            obtain ⟨j, es, clock, L, hj, rfl, HM, HK4⟩ := hrel
            by_cases hjl : j < ps.length
            · obtain ⟨g, off, rfl, hg, hc⟩ := HU.out.at hjl
              obtain ⟨p, hp⟩ : ∃ p, ps[j] = p := ⟨_, rfl⟩
              rw [hp] at hc
              have hc' := HK4.out.cell hc (fun e => by have := HUB.out g rfl; simp only at e; omega)
              have HST := Lib.hid (foldl_take_succ (fun a p => addW a (m p)) 0 ps hjl hp)
              have hpx : p ≠ x := fun e => HPX.out (by rw [← e, ← hp]; exact List.getElem_mem hjl)
              have hpb := HB.out p
              have hab := foldl_add_bd (ps.take j) m 0 (Nat.zero_le _)
              have hl2 := HM.out.look p (m p) (setF_off m hpx _)
              obtain ⟨q, hq⟩ : ∃ q, m p = q := ⟨_, rfl⟩
              obtain ⟨acc, hacc⟩ : ∃ acc, (ps.take j).foldl (fun a p => addW a (m p)) 0 = acc := ⟨_, rfl⟩
              rw [hacc] at HM HST hab
              rw [hq] at HST hpb hl2
              have hl1 := HM.out.look x acc (setF_at m x acc) wr HM.out.map
              have hl2 := hl2 wr HM.out.map
              by_cases hbig : 4611686018427387904 - (q : Int) < (acc : Int)
              · obtain ⟨es5, clock5, L5, hrun, hall⟩ := HM.out.set x 4611686018427387904
                have hrun := hrun wr HM.out.map
                have hall := hall wr HM.out.map
                rw [show ((4611686018427387904 : Nat) : Int) = 4611686018427387904 from rfl] at hrun
                rw [setF_set, show 4611686018427387904 = addW acc q from by unfold addW; omega, ← HST.out] at hall
                have HA := Lib.hid hall
                clear hc hp hpx hq hacc hall hg
                go_wp2_with fail
                go_roundw
                case rel => exact ⟨j + 1, _, _, _, by omega, by go_num, Lib.hid HA.out.1, Lib.hid (HK4.out.trans HA.out.2 (fun _ _ h => h))⟩
                case measure => simp [intOf]; omega
              · obtain ⟨es5, clock5, L5, hrun, hall⟩ := HM.out.set x (acc + q)
                have hrun := hrun wr HM.out.map
                have hall := hall wr HM.out.map
                rw [setF_set, show acc + q = addW acc q from by unfold addW; omega, ← HST.out] at hall
                rw [show ((acc + q : Nat) : Int) = (acc : Int) + (q : Int) from by omega] at hrun
                have HA := Lib.hid hall
                clear hc hp hpx hq hacc hall hg
                go_wp2_with fail
                go_roundw
                case rel => exact ⟨j + 1, _, _, _, by omega, by go_num, Lib.hid HA.out.1, Lib.hid (HK4.out.trans HA.out.2 (fun _ _ h => h))⟩
                case measure => simp [intOf]; omega
            · obtain rfl : j = ps.length := by omega
              rw [List.take_length, ← HNX.out] at HM
              go_wp2_with fail
              go_roundw
              case rel => exact ⟨k + 1, _, _, _, by omega, by go_num, HM, Lib.hid (HK3.out.more HK4.out (fun i e => Nat.le_of_eq e.symm))⟩
              case measure => simp [intOf]; omega
      · obtain rfl : k = o.length := by omega
        rw [List.take_length] at HM
        have hl1 := HM.out.look b _ rfl wr HM.out.map
        have HE : Hid (runF (wayS (parN (nodesO os)) a) o (fun _ => 0) b = wayF (parN (nodesO os)) a o b) := Lib.hid rfl
        generalize runF (wayS (parN (nodesO os)) a) o (fun _ => 0) b = D at *
        go_wp2_with fail
        go_ret2
        refine ⟨⟨o, HO2.out, ?_⟩, ?_⟩
        · rw [← HE.out]
          rfl
        exact HK1.out.trans HK2.out (fun _ _ h => h)
end Go.Proofs.Ytikacgiccllolaa
