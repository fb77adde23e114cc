/- graph: maps of numbers; Depth. -/
import Derived.Test.YtikacgiccllolaaWalkA
import Derived.Test.YtikacgiccllolaaGraphD
namespace Go.Proofs.Ytikacgiccllolaa
open Go.RowKit Go.ChangeMaps Go.MapKept

/-- A map from ids to numbers, in block M. -/
structure MapN (w : World) (M : Nat) (es : Array MapEntry) (clock : Nat) (L : List (Int × Nat)) (m : Nat → Nat) : Prop where
  map : w.heap[M]? = some (.map es clock)
  stamped : Stamped es clock
  rel : RelM (Value.int .u64) (fun v (n : Nat) => v = .int .i64 n) es.toList L
  st : ∀ x : Nat, (getA (x : Int) L).getD 0 = m x
section
variable {w w' : World} {M : Nat} {es : Array MapEntry} {clock : Nat} {L : List (Int × Nat)} {m : Nat → Nat}
theorem MapN.kept {G : Nat → Prop} (h : MapN w M es clock L m) (hk : Kept G w w') (hG : ¬ G M) : MapN w' M es clock L m :=
  ⟨(hk.block M (Array.getElem?_eq_some_iff.1 h.map).1 hG).trans h.map, h.stamped, h.rel, h.st⟩
theorem MapN.lt (h : MapN w M es clock L m) : M < w.heap.size := (Array.getElem?_eq_some_iff.1 h.map).1
theorem MapN.look (h : MapN w M es clock L m) (x n : Nat) (hn : m x = n) : ∀ w' : World, w'.heap[M]? = some (.map es clock) → (Instr.lookup 82 (.map (some M)) (.int .u64 x) false).run Try.prog w' = .ok (.int .i64 (n : Nat)) w' := by
  obtain ⟨v, hrun, hv⟩ := run_lookup_rel (m := M) (clock := clock) (keyEnc_int Try.underlying37) Try.underlying82 zero_int h.rel (x : Int) false
  intro w' hm
  have hr := hrun w' hm
  have hs := h.st x
  subst hn
  rcases hv with ⟨h1, rfl⟩ | ⟨n, e, h1, rfl, -⟩
  · rw [h1] at hs; rw [← hs]; simpa using hr
  · rw [h1] at hs; rw [← hs]; simpa using hr
theorem MapN.set (h : MapN w M es clock L m) (x n : Nat) :
    ∃ es' clock' L', (∀ w' : World, w'.heap[M]? = some (.map es clock) → (Instr.mapUpdate 82 (.map (some M)) (.int .u64 x) (.int .i64 n)).run Try.prog w' = .ok () (setBlock w' M (.map es' clock'))) ∧
      ∀ w' : World, w'.heap[M]? = some (.map es clock) → MapN (setBlock w' M (.map es' clock')) M es' clock' L' (setF m x n) ∧ Kept (· = M) w' (setBlock w' M (.map es' clock')) := by
  obtain ⟨es', clock', hrun, hrel, hst', -⟩ := run_mapUpdate_rel (m := M) (R' := fun v (n : Nat) => v = .int .i64 n) (keyEnc_int Try.underlying37) Try.underlying82 h.rel h.stamped (x : Int) (.int .i64 n) n rfl (fun e _ _ b hb => hb)
  refine ⟨es', clock', _, hrun, fun w' hm => ⟨⟨heap_setBlock_same hm _, hst', hrel, fun y => ?_⟩, (Kept.refl (· = M) w').setBlock (fun _ => rfl) _⟩⟩
  unfold setF
  by_cases hy : y = x
  · rw [if_pos hy, hy, getA_putA_same]; rfl
  · rw [if_neg hy, getA_putA_ne (by omega), h.st y]
end
theorem setF_same (m : Nat → Nat) (x : Nat) : setF m x (m x) = m := by funext y; unfold setF; by_cases h : y = x <;> simp [h]
theorem setF_set (m : Nat → Nat) (x a b : Nat) : setF (setF m x a) x b = setF m x b := by funext y; unfold setF; by_cases h : y = x <;> simp [h]
theorem setF_at (m : Nat → Nat) (x a : Nat) : setF m x a x = a := by simp [setF]
theorem setF_off (m : Nat → Nat) {x y : Nat} (h : y ≠ x) (a : Nat) : setF m x a y = m y := by simp [setF, h]
theorem foldl_take_succ {β : Type} (g : β → Nat → β) (a : β) (ps : List Nat) {j : Nat} (hj : j < ps.length) {p : Nat} (hp : ps[j] = p) : (ps.take (j + 1)).foldl g a = g ((ps.take j).foldl g a) p := by
  rw [List.take_succ_eq_append_getElem hj, List.foldl_append, hp]
  rfl
theorem foldl_max_bd (l : List Nat) (m : Nat → Nat) (b : Nat) (h : ∀ x, m x ≤ b) : ∀ a, a ≤ b → l.foldl (fun a p => max a (m p)) a ≤ b := by
  induction l with
  | nil => intro a ha; exact ha
  | cons q l ih => intro a ha; exact ih (max a (m q)) (by have := h q; omega)
theorem runF_take (f : (Nat → Nat) → Nat → Nat) (o : List Nat) {k : Nat} (hk : k < o.length) {x : Nat} (hx : o[k] = x) (m : Nat → Nat) : runF f (o.take (k + 1)) m = setF (runF f (o.take k) m) x (f (runF f (o.take k) m) x) := by
  rw [List.take_succ_eq_append_getElem hk, runF_snoc, hx]
theorem dep_le (par : Nat → List Nat) (o : List Nat) : ∀ k, k ≤ o.length → ∀ x, runF (depS par) (o.take k) (fun _ => 0) x ≤ k := by
  intro k
  induction k with
  | zero => intro _ x; simp [runF]
  | succ k ih =>
    intro hk x
    have hi := ih (by omega)
    rw [runF_take _ o (by omega) rfl]
    unfold setF
    split
    · rename_i h9
      clear h9
      have := foldl_max_bd (par o[k]) (runF (depS par) (o.take k) fun _ => 0) k hi 0 (by omega)
      unfold depS at *
      omega
    · have := hi x; omega
theorem topo_take_off {N : List NodeM} {o : List Nat} (h : Topo N o) {k : Nat} (hk : k < o.length) : o[k] ∉ o.take k := by
  intro hm
  obtain ⟨i, hi, e⟩ := List.getElem_of_mem hm
  rw [List.length_take] at hi
  rw [List.getElem_take] at e
  exact List.pairwise_iff_getElem.1 h.nodup i k (by omega) hk (by omega) e
theorem topo_self_off {N : List NodeM} {o : List Nat} (h : Topo N o) {x : Nat} (hx : x ∈ o) : x ∉ parN N x := fun hm => (h.fine x hx).acyclic x (h.parN hx hm) (.refl _)
theorem comR_parN {os : List OM} {o : List Nat} (h : Topo (nodesO os) o) {x : Nat} (hx : x ∈ o) : (comR os x).2.1 = parN (nodesO os) x := by
  cases h.fine x hx with
  | @mk _ d hf hd _ =>
    unfold parN
    rw [hf]
    rcases comR_nodes os x with ⟨h1, -⟩ | ⟨d', h1, h2, -⟩ | ⟨d', h1, -, -, h2⟩
    · rw [h1] at hf; cases hf
    · rw [h1] at hf; cases hf; rw [h2] at hd; cases hd
    · rw [h1] at hf; cases hf; exact h2

def depE (N : List NodeM) (b : Nat) (e : Ending) : Except Int (List Nat) → Prop
  | .ok o => e = .returned (.tuple #[.int .i64 (depF (parN N) o b : Nat), .int .i64 0])
  | .error c => e = .returned (.tuple #[.int .i64 0, .int .i64 c]) ∧ c ≠ 0
set_option maxRecDepth 100000 in
set_option maxHeartbeats 1000000 in
theorem depth_any {w : World} {s : Nat} {F : Nat → Prop} {os : List OM} (h : ObAt w s F os) (hos : os.length ≤ 100000) (b : Nat) (hb : b < 18446744073709551616) :
    Calls Try.prog 16 #[.pointer (some ⟨s, 0, none⟩), .int .u64 b] w fun e w' => depE (nodesO os) b e (orderR (nodesO os) os.length [b]) ∧ Kept (fun _ => False) w w' := by
  have hk1 : Kept (fun _ => False) w (w.alloc (.cells #[.int .u64 b] 37)) := (Kept.refl _ _).alloc _
  have HO := Lib.hid (order_any (h.keptN hk1) hos _ _ [b] (ids_new w [b] (by simp [hb]) (by simp [maxLen]) _ rfl))
  have HT : Hid (∀ o, orderR (nodesO os) os.length [b] = .ok o → Topo (nodesO os) o ∧ o.length ≤ 100000) := Lib.hid (fun o h => ⟨(orderR_ok h).1, by have := (orderR_ok h).1.good.len; simp [nodesO] at this; omega⟩)
  have HK := Lib.hid hk1
  have HH := Lib.hid h
  generalize orderR (nodesO os) os.length [b] = R at *
  clear h hk1
  have hmm := @run_makeMap Try.prog
  go_enter Try.func16, Try.ntmps16
  go_wp2_with fail
  refine HO.out.mono ?_
  rintro e w1 ⟨he, hk⟩
  have HK1 : Hid (Kept (fun _ => False) w w1) := Lib.hid (HK.out.more hk (fun _ f => f.elim))
  clear hk
  cases R with
  | error c2 =>
    obtain ⟨rfl, hc0⟩ := he
    have hcb : (c2 != 0) = true := by simp [hc0]
    have HC0 := Lib.hid hc0
    clear hc0
    go_wp2_with fail
    go_ret2
    exact ⟨⟨rfl, HC0.out⟩, HK1.out⟩
  | ok o =>
    obtain ⟨v, rfl, ho⟩ := he
    obtain ⟨va, vc, rfl, -, -⟩ := ho.form
    obtain ⟨hT, hol⟩ := HT.out o rfl
    have HTo := Lib.hid hT
    have HIo := Lib.hid (ho.isI hT.lt)
    have HM0 : Hid (MapN (w1.alloc (.map #[] 0)) w1.heap.size #[] 0 [] (fun _ => 0)) := Lib.hid ⟨heap_alloc_new _ _, stamped_empty 0, trivial, fun x => rfl⟩
    have HK2 : Hid (Kept (fun _ => False) w1 (w1.alloc (.map #[] 0))) := Lib.hid ((Kept.refl _ _).alloc _)
    have hl63 : o.length ≤ 9223372036854775807 := by omega
    clear ho hT
    go_wp2_with fail
    go_loopw [26] (fun i wr => ∃ k es clock L, k ≤ o.length ∧ i = .int .i64 k ∧ Hid (MapN wr w1.heap.size es clock L (runF (depS (parN (nodesO os))) (o.take k) (fun _ => 0))) ∧ Hid (Kept (fun _ => False) w1 wr)) (fun i _ => o.length - (intOf i).toNat)
    case atStart => exact ⟨0, _, _, _, Nat.zero_le _, rfl, HM0, HK2⟩
    case round =>
      clear HM0 HK2
      obtain ⟨k, es, clock, L, hk, rfl, HM, HK2⟩ := hrel
      by_cases hlt : k < o.length
      · obtain ⟨g, off, rfl, hg, hc⟩ := (HIo.out.keptN HK2.out).at hlt
        obtain ⟨x, hx⟩ : ∃ x, o[k] = x := ⟨_, rfl⟩
        rw [hx] at hc
        have hm : x ∈ o := by rw [← hx]; exact List.getElem_mem hlt
        have HNX : Hid (runF (depS (parN (nodesO os))) (o.take (k + 1)) (fun _ => 0) = setF (runF (depS (parN (nodesO os))) (o.take k) (fun _ => 0)) x ((parN (nodesO os) x).foldl (fun a p => max a (runF (depS (parN (nodesO os))) (o.take k) (fun _ => 0) p)) 0 + 1)) := Lib.hid (runF_take (depS (parN (nodesO os))) o hlt hx (fun _ => 0))
        have HX : Hid (runF (depS (parN (nodesO os))) (o.take k) (fun _ => 0) x = 0) := Lib.hid (runF_off _ _ _ _ (by rw [← hx]; exact topo_take_off HTo.out hlt))
        have HB : Hid (∀ y, runF (depS (parN (nodesO os))) (o.take k) (fun _ => 0) y ≤ k) := Lib.hid (dep_le _ o k hk)
        have HP := Lib.hid (parents_any (HH.out.keptN (HK1.out.trans HK2.out (fun _ _ h => h))) x)
        rw [comR_parN HTo.out hm] at HP
        have HPX := Lib.hid (topo_self_off HTo.out hm)
        have HPL : Hid (∀ p ∈ parN (nodesO os) x, p < 18446744073709551616) := Lib.hid (fun p hp => HTo.out.lt p (HTo.out.closed x hm p (HTo.out.parN hm hp)))
        obtain ⟨ps, hps⟩ : ∃ ps, parN (nodesO os) x = ps := ⟨_, rfl⟩
        rw [hps] at HP HPX HPL HNX
        generalize runF (depS (parN (nodesO os))) (o.take k) (fun _ => 0) = m at *
        clear hx hg hm hps
        go_wp2_with fail
        refine HP.out.mono ?_
        rintro e w2 ⟨u, rfl, hu, hk2⟩
        obtain ⟨ua, uc, rfl, hul, huc⟩ := hu.form
        have HU := Lib.hid (hu.isI HPL.out)
        have HK3 : Hid (Kept (fun _ => False) w1 w2) := Lib.hid (HK2.out.more hk2 (fun _ f => f.elim))
        have HM3 : Hid (MapN w2 w1.heap.size es clock L (setF m x ((ps.take 0).foldl (fun a p => max a (m p)) 0))) := Lib.hid (by
          have := HM.out.kept hk2 (fun f => f)
          rw [List.take_zero, List.foldl_nil, ← HX.out, setF_same]
          exact this)
        have HS3 : Hid (w1.heap.size < w2.heap.size) := Lib.hid HM3.out.lt
        have HUB : Hid (∀ g, (Value.slice ua ps.length uc).ownBlock = some g → w1.heap.size < g) := Lib.hid (fun g e => by have := (hu.base e).1; have := HM.out.lt; omega)
        have hp63 : ps.length ≤ 9223372036854775807 := by unfold maxLen at huc; omega
        clear hu hk2 hul huc hc
        go_wp2_with fail
        go_loopw [34] (fun i wy => ∃ j es clock L, j ≤ ps.length ∧ i = .int .i64 j ∧ Hid (MapN wy w1.heap.size es clock L (setF m x ((ps.take j).foldl (fun a p => max a (m p)) 0))) ∧ Hid (Kept (· = w1.heap.size) w2 wy)) (fun i _ => ps.length - (intOf i).toNat)
        case atStart => exact ⟨0, _, _, _, Nat.zero_le _, rfl, HM3, Lib.hid (Kept.refl _ _)⟩
        case round =>
          clear HM3 HM
          obtain ⟨j, es, clock, L, hj, rfl, HM, HK4⟩ := hrel
          by_cases hjl : j < ps.length
          · obtain ⟨g, off, rfl, hg, hc⟩ := HU.out.at hjl
            obtain ⟨p, hp⟩ : ∃ p, ps[j] = p := ⟨_, rfl⟩
            rw [hp] at hc
            have hc' := HK4.out.cell hc (fun e => by have := HUB.out g rfl; simp only at e; omega)
            have HST := Lib.hid (foldl_take_succ (fun a p => max a (m p)) 0 ps hjl hp)
            have hpx : p ≠ x := fun e => HPX.out (by rw [← e, ← hp]; exact List.getElem_mem hjl)
            have hpb := HB.out p
            have hab := foldl_max_bd (ps.take j) m k HB.out 0 (Nat.zero_le _)
            have hl2 := HM.out.look p (m p) (setF_off m hpx _)
            obtain ⟨q, hq⟩ : ∃ q, m p = q := ⟨_, rfl⟩
            obtain ⟨acc, hacc⟩ : ∃ acc, (ps.take j).foldl (fun a p => max a (m p)) 0 = acc := ⟨_, rfl⟩
            rw [hacc] at HM HST hab
            rw [hq] at HST hpb hl2
            have hl1 := HM.out.look x acc (setF_at m x acc) wr HM.out.map
            have hl2 := hl2 wr HM.out.map
            obtain ⟨es5, clock5, L5, hrun, hall⟩ := HM.out.set x (max acc q)
            have hrun := hrun wr HM.out.map
            have hall := hall wr HM.out.map
            rw [setF_set, ← HST.out] at hall
            have HA := Lib.hid hall
            clear hc hp hpx hq hacc hall hpb hab hg
            by_cases hqa : acc < q
            all_goals
              first | rw [Nat.max_eq_right (Nat.le_of_lt hqa)] at hrun | rw [Nat.max_eq_left (Nat.le_of_not_lt hqa)] at hrun
              go_wp2_with fail
              go_roundw
              case rel => exact ⟨j + 1, _, _, _, by omega, by go_num, Lib.hid HA.out.1, Lib.hid (HK4.out.trans HA.out.2 (fun _ _ h => h))⟩
              case measure => simp [intOf]; omega
          · obtain rfl : j = ps.length := by omega
            rw [List.take_length] at HM
            have hab := foldl_max_bd ps m k HB.out 0 (Nat.zero_le _)
            obtain ⟨acc, hacc⟩ : ∃ acc, ps.foldl (fun a p => max a (m p)) 0 = acc := ⟨_, rfl⟩
            rw [hacc] at HM HNX hab
            have hl1 := HM.out.look x acc (setF_at m x acc) wr HM.out.map
            obtain ⟨es5, clock5, L5, hrun, hall⟩ := HM.out.set x (acc + 1)
            have hrun := hrun wr HM.out.map
            have hall := hall wr HM.out.map
            rw [setF_set, ← HNX.out] at hall
            rw [show ((acc + 1 : Nat) : Int) = (acc : Int) + 1 from by omega] at hrun
            have HA := Lib.hid hall
            clear hacc hall
            go_wp2_with fail
            go_roundw
            case rel => exact ⟨k + 1, _, _, _, by omega, by go_num, Lib.hid HA.out.1, Lib.hid ((HK3.out.more HK4.out (fun i e => Nat.le_of_eq e.symm)).more HA.out.2 (fun i e => Nat.le_of_eq e.symm))⟩
            case measure => simp [intOf]; omega
      · obtain rfl : k = o.length := by omega
        rw [List.take_length] at HM
        have hl1 := HM.out.look b _ rfl wr HM.out.map
        have HE : Hid (runF (depS (parN (nodesO os))) o (fun _ => 0) b = depF (parN (nodesO os)) o b) := Lib.hid rfl
        generalize runF (depS (parN (nodesO os))) o (fun _ => 0) b = D at *
        go_wp2_with fail
        go_ret2
        refine ⟨?_, ?_⟩
        · show Ending.returned _ = Ending.returned (.tuple #[.int .i64 (depF (parN (nodesO os)) o b : Nat), .int .i64 0])
          rw [← HE.out]
          rfl
        exact HK1.out.trans HK2.out (fun _ _ h => h)
end Go.Proofs.Ytikacgiccllolaa
