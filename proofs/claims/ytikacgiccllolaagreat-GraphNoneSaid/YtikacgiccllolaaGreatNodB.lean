/- espalierref11: From. -/
import Derived.Test.YtikacgiccllolaaGreatNodA
import Derived.Test.YtikacgiccllolaaGreatWalkA
import Derived.Laws.MakeOwn
namespace Go.Proofs.YtikacgiccllolaaGreat
open Go.RowKit Go.ChangeMaps Go.MapKept

def refE (w w' : World) (n0 : Nat) (ov : Value) (e : Ending) : Except Int (List Nat) → Prop
  | .ok o => ∃ v, e = .returned (.tuple #[v, .int .i64 0]) ∧ OwnI n0 w' v o ∧ ∀ g, v.ownBlock = some g → ov.ownBlock = some g ∨ w.heap.size ≤ g
  | .error c => e = .returned (.tuple #[.slice none 0 0, .int .i64 c]) ∧ c ≠ 0
def belowF (N : List NodeM) (n : Nat) (on : List Nat) : Nat → List Nat → Except Int (List Nat) := fun p o => if p ∈ on then .error 210 else fromR N n p o on
def thenE (f : Nat → List Nat → Except Int (List Nat)) (ps : List Nat) : Except Int (List Nat) → Except Int (List Nat)
  | .ok o => foldE f ps o
  | .error e => .error e
theorem Topo.found {N : List NodeM} {o : List Nat} (h : Topo N o) : ∀ x ∈ o, ∃ d, findN N x = some d := fun x hx => by
  cases h.fine x hx with
  | mk hf _ _ => exact ⟨_, hf⟩
theorem Topo.len {N : List NodeM} {o : List Nat} (h : Topo N o) : o.length ≤ N.length := on_short h.nodup h.found
theorem ids_make (w : World) (n0 c : Nat) (h0 : n0 ≤ w.heap.size) (hc : c ≤ 1000000) : ∃ w', (Instr.makeSlice 28 (.int .i64 0) (.int .i64 (c : Int))).run Tryz.prog w = .ok (.slice (some ⟨w.heap.size, 0, none⟩) 0 c) w' ∧ OwnI n0 w' (.slice (some ⟨w.heap.size, 0, none⟩) 0 c) [] ∧ Kept (fun _ => False) w w' := by
  obtain ⟨i0, hi, hz0, hz1, hz2⟩ := info_parts Tryz.info37
  obtain ⟨w', h1, h2, h3⟩ := run_make_own (P := Tryz.prog) w n0 28 37 i0 _ 1 Tryz.underlying28 hi hz0 hz1 .i64 .i64 c (by rw [hz2]; omega) (by unfold maxLen; omega) h0
  exact ⟨w', h1, h2, Kept.grown (Kept.refl _ _) h3 (fun k e _ => by cases e)⟩
theorem ids_app {n0 : Nat} {w : World} {v : Value} {l : List Nat} (h : OwnI n0 w v l) (hk0 : n0 ≤ w.heap.size) (x : Nat) (hl : l.length ≤ 100000000) :
    ∃ v' w', (Builtin.append_ #[28, 28] 28 #[v, .slice (some ⟨w.heap.size, 0, none⟩) 1 1]).run Tryz.prog (w.alloc (.cells #[.int .u64 x] 37)) = .ok v' w' ∧ OwnI n0 w' v' (l ++ [x]) ∧ Kept (fun k => v.ownBlock = some k) w w' ∧ (∀ g, v'.ownBlock = some g → v.ownBlock = some g ∨ w.heap.size ≤ g) := by
  obtain ⟨wA, hwA, hkA, hszA, hA0⟩ := one_new w (.int .u64 x) 37
  rw [hwA]
  obtain ⟨v', w', h1, h2, h3, h4⟩ := (h.keptF hkA (fun _ _ f => f)).pushB (by omega) _ x hA0 (by omega)
  refine ⟨v', w', h1, h2, (hkA.mono (fun _ _ f => f.elim)).trans h3 (fun _ _ h => h), fun g e => ?_⟩
  rcases h4 with h4 | h4
  · exact .inl (h4 ▸ e)
  · rw [h4] at e; cases e; exact .inr (by omega)

set_option maxRecDepth 100000 in
set_option maxHeartbeats 1000000 in
theorem rfrom_any (n : Nat) : ∀ (w : World) (B : Nat) (la : Option Addr) (ln lc : Nat) (S : List NdM) (id : Nat) (ov : Value) (order : List Nat) (na : Option Addr) (nn nc : Nat) (on : List Nat), IsD w B (.slice la ln lc) S → S.length ≤ 1000 → OwnI B w ov order → B ≤ w.heap.size → IsI w (.slice na nn nc) on →
      (∀ g, ov.ownBlock = some g → (Value.slice na nn nc).ownBlock ≠ some g) → (∀ g, (Value.slice na nn nc).ownBlock = some g → g < w.heap.size) → Topo (nodesD S) order → on.Nodup → (∀ y ∈ on, ∃ d, findN (nodesD S) y = some d) → id ∉ on → (nodesD S).length + 1 ≤ on.length + n →
    Calls Tryz.prog 24 #[.slice la ln lc, .int .u64 id, ov, .slice na nn nc] w fun e w' => refE w w' B ov e (fromR (nodesD S) n id order on) ∧ Kept (fun k => ov.ownBlock = some k) w w' := by
  induction n with
  | zero =>
    intro w B la ln lc S id ov order na nn nc on _ _ _ _ _ _ _ _ hnd hfo _ hlen
    have := on_short hnd hfo
    omega
  | succ n ih =>
    intro w B la ln lc S id ov order na nn nc on hD hSl hO hB hN hsep hnlt hT hnd hfo hid hlen
    obtain ⟨oa, oc, rfl, -, -⟩ := hO.form
    have HH := Lib.hid (rhas_any w oa order.length oc order id (hO.isI (fun x hx => by
      obtain ⟨d, hd⟩ := hT.found x hx
      obtain ⟨h1, h2⟩ := findN_some hd
      obtain ⟨p, hp, rfl⟩ := List.mem_map.1 h1
      rw [← h2]
      exact (hD.mem p hp).1)))
    have HF := Lib.hid (rfind_any w B la ln lc S id hD)
    by_cases hin : id ∈ order
    · have HI := Lib.hid hin
      rw [show decide (id ∈ order) = true from by simp [hin]] at HH
      have HR : Hid (fromR (nodesD S) (n + 1) id order on = .ok order) := Lib.hid (by rw [fromR, if_pos hin])
      have HO := Lib.hid hO
      rw [HR.out]
      clear hin hD hN hsep hnlt hT hnd hfo hid hlen ih hO hB HF
      go_enter Tryz.func24, Tryz.ntmps24
      go_wp2_with fail
      refine HH.out.mono ?_
      rintro e w' ⟨rfl, rfl⟩
      go_wp2_with fail
      go_ret2
      exact ⟨⟨_, rfl, HO.out, fun g e => .inl e⟩, Kept.refl _ _⟩
    · rw [show decide (id ∈ order) = false from by simp [hin]] at HH
      obtain ⟨R, hR⟩ : ∃ R, fromR (nodesD S) (n + 1) id order on = R := ⟨_, rfl⟩
      rw [hR]
      rw [fromR, if_neg hin] at hR
      have HR := Lib.hid hR
      clear hR hin
      have HALL := Lib.hid (And.intro hD (And.intro hSl (And.intro hO (And.intro hB (And.intro hN (And.intro hsep (And.intro hnlt (And.intro hT (And.intro hnd (And.intro hfo (And.intro hid hlen)))))))))))
      clear hD hSl hO hB hN hsep hnlt hT hnd hfo hid hlen
      have IH := Lib.hid ih
      clear ih
      go_enter Tryz.func24, Tryz.ntmps24
      go_wp2_with fail
      refine HH.out.mono ?_
      rintro e w' ⟨rfl, rfl⟩
      go_wp2_with fail
      refine HF.out.mono ?_
      rintro e w' ⟨⟨r, rfl, hr⟩, rfl⟩
      rcases find_first hr with ⟨rfl, h1⟩ | ⟨k, hk, rfl, h1, h2⟩
      · have HQ : R = .error 4 := by have := HR.out; rw [h1] at this; exact this.symm
        clear hr h1
        subst HQ
        go_wp2_with fail
        go_ret2
        exact ⟨⟨rfl, by decide⟩, Kept.refl _ _⟩
      · have hkn : (k : Int) < (ln : Int) := by have := HALL.out.1.len.1; omega
        have hk0 : (0 : Int) ≤ (k : Int) := by omega
        have HP := Lib.hid (HALL.out.1.mem S[k] (List.getElem_mem hk))
        obtain ⟨lg, lo, rfl, hg, q0, q1, q2⟩ := HALL.out.1.at hk
        obtain ⟨p, hp⟩ : ∃ p, S[k] = p := ⟨_, rfl⟩
        rw [hp] at h1 h2 HP q0 q1 q2
        have H1 := Lib.hid h1
        have H2 := Lib.hid h2
        have HLG := Lib.hid hg
        clear hr hp h1 h2 hg
        cases hother : p.other with
        | true =>
          rw [hother] at q2
          have HQ : R = .error 170 := by
            have := HR.out
            rw [H2.out] at this
            simp only [NdM.node, hother, if_true] at this
            exact this.symm
          subst HQ
          clear hother
          go_wp2_with fail
          go_ret2
          exact ⟨⟨rfl, by decide⟩, Kept.refl _ _⟩
        | false =>
          rw [hother] at q2
          have HQ : Hid ((match foldE (belowF (nodesD S) n (on ++ [id])) p.ps order with | .ok o => Except.ok (o ++ [id]) | .error e => .error e) = R) := Lib.hid (by
            have := HR.out
            rw [H2.out] at this
            simp only [NdM.node, hother] at this
            rw [if_neg (by decide)] at this
            exact this)
          clear hother HR
          have hnn := HALL.out.2.2.2.2.1.len
          have hn1 := hnn.1
          have hnl : nn ≤ 1000 := by
            have h3 := on_short HALL.out.2.2.2.2.2.2.2.2.1 HALL.out.2.2.2.2.2.2.2.2.2.1
            have h4 := HALL.out.2.1
            simp [nodesD] at h3
            omega
          obtain ⟨wm, hmk, hmo, hmk2⟩ := ids_make w w.heap.size (nn + 1) (Nat.le_refl _) (by omega)
          rw [show ((nn + 1 : Nat) : Int) = (nn : Int) + 1 from by omega] at hmk
          have HMO := Lib.hid hmo
          have HMK := Lib.hid hmk2
          have HNN := Lib.hid hn1
          clear hmo hmk2 hnn hn1
          go_wp2_with fail
          clear hmk
          go_loopw [11, 12] (fun bv i wr => ∃ j, j ≤ nn ∧ i = .int .i64 j ∧ Hid (OwnI w.heap.size wr bv (on.take j)) ∧ Hid (Kept (fun _ => False) w wr)) (fun _ i _ => nn - (intOf i).toNat)
          case atStart => exact ⟨0, Nat.zero_le _, rfl, HMO, HMK⟩
          case round =>
            clear HMO HMK
            obtain ⟨j, hj, rfl, HO, HK⟩ := hrel
            by_cases hjn : j < nn
            · have hjl : j < on.length := by have := HNN.out; omega
              obtain ⟨g, off, rfl, hg, hc⟩ := (HALL.out.2.2.2.2.1.keptN HK.out).at hjl
              obtain ⟨x, hx⟩ : ∃ x, on[j] = x := ⟨_, rfl⟩
              rw [hx] at hc
              obtain ⟨v', w', hrun, ho', hk', -⟩ := ids_app HO.out HK.out.size x (by rw [List.length_take]; omega)
              have HO' : Hid (OwnI w.heap.size w' v' (on.take (j + 1))) := Lib.hid (by rw [List.take_succ_eq_append_getElem hjl, hx]; exact ho')
              have HK' : Hid (Kept (fun _ => False) w w') := Lib.hid (HK.out.more hk' (fun i e => (HO.out.base e).1))
              clear hx ho' hk' hg
              go_wp2_with (at_builtin; refine wpList_append_run rfl (.tmp 40) (.tmp 45) #[28, 28] rfl _ _ _ _ rfl rfl hrun ?_)
              go_roundw
              case rel => exact ⟨j + 1, by omega, by go_num, HO', HK'⟩
              case measure => simp [intOf]; omega
            · obtain rfl : j = nn := by omega
              obtain ⟨v', w', hrun, ho', hk', -⟩ := ids_app HO.out HK.out.size id (by rw [List.length_take]; omega)
              rw [List.take_of_length_le (Nat.le_of_eq HNN.out.symm)] at ho'
              have HK' : Hid (Kept (fun _ => False) w w') := Lib.hid (HK.out.more hk' (fun i e => (HO.out.base e).1))
              obtain ⟨ba, bc, rfl, -, -⟩ := ho'.form
              obtain ⟨bn, hbn⟩ : ∃ bn, (on ++ [id]).length = bn := ⟨_, rfl⟩
              rw [hbn] at hrun ho'
              have HBN := Lib.hid hbn
              have HO' := Lib.hid ho'
              have HBI : Hid (IsI w' (.slice ba bn bc) (on ++ [id])) := Lib.hid (ho'.isI (fun x hx => by
                rcases List.mem_append.1 hx with hx | hx
                · obtain ⟨_, _, _, _, _, h9, _⟩ := HALL.out.2.2.2.2.1
                  exact h9 x hx
                · rw [List.mem_singleton.1 hx, ← H1.out]
                  exact HP.out.1))
              have HBB : Hid (∀ g, (Value.slice ba bn bc).ownBlock = some g → w.heap.size ≤ g ∧ g < w'.heap.size) := Lib.hid (fun g e => ho'.base e)
              have hpz := HP.out.2.1
              obtain ⟨pa, pc, hpv, hpl, hpc, hpb, -⟩ := hpz
              obtain ⟨pn, hpn⟩ : ∃ pn, p.ps.length = pn := ⟨_, rfl⟩
              have HPN := Lib.hid hpn
              have HPI : Hid (IsI w (.slice pa pn pc) p.ps) := Lib.hid (by rw [← hpn, ← hpv]; exact HP.out.2.1)
              have HPB : Hid (∀ g, (Value.slice pa pn pc).ownBlock = some g → g < B) := Lib.hid (by rw [← hpn, ← hpv]; exact HP.out.2.2)
              rw [hpv, hpn] at q1
              have hpn63 : pn ≤ 9223372036854775807 := by unfold maxLen at hpc; omega
              obtain ⟨R2, hR2⟩ : ∃ R2, foldE (belowF (nodesD S) n (on ++ [id])) p.ps order = R2 := ⟨_, rfl⟩
              rw [hR2] at HQ
              have HR2 : Hid (Topo (nodesD S) order ∧ foldE (belowF (nodesD S) n (on ++ [id])) (p.ps.drop 0) order = R2) := Lib.hid ⟨HALL.out.2.2.2.2.2.2.2.1, hR2⟩
              have HOV : Hid (OwnI B w' (.slice oa order.length oc) order ∧ (∀ g, (Value.slice oa order.length oc).ownBlock = some g → (Value.slice oa order.length oc).ownBlock = some g ∨ w.heap.size ≤ g) ∧ (∀ g, (Value.slice oa order.length oc).ownBlock = some g → (Value.slice ba bn bc).ownBlock ≠ some g)) := Lib.hid ⟨HALL.out.2.2.1.keptF HK'.out (fun _ _ f => f), fun g e => .inl e, fun g e e2 => by have := (HALL.out.2.2.1.base e).2; have := (HBB.out g e2).1; omega⟩
              have HKK : Hid (Kept (fun k => (Value.slice oa order.length oc).ownBlock = some k) w w' ∧ w'.heap.size ≤ w'.heap.size) := Lib.hid ⟨HK'.out.mono (fun _ _ f => f.elim), Nat.le_refl _⟩
              have HOB : Hid (∀ g, (Value.slice oa order.length oc).ownBlock = some g → B ≤ g) := Lib.hid (fun g e => (HALL.out.2.2.1.base e).1)
              have hq1 := HK'.out.cell q1 (fun f => f)
              have HQ1 := Lib.hid q1
              clear ho' hk' hbn hpv hpl hpc hpb hpn hR2
              go_wp2_with (at_builtin; refine wpList_append_run rfl (.tmp 47) (.tmp 49) #[28, 28] rfl _ _ _ _ rfl rfl hrun ?_)
              clear hrun hq1 q0 q1 q2
              go_loopw [2, 13] (fun ov i wy => ∃ k2 o2, k2 ≤ pn ∧ i = .int .i64 k2 ∧ Hid (OwnI B wy ov o2 ∧ (∀ g, ov.ownBlock = some g → (Value.slice oa order.length oc).ownBlock = some g ∨ w.heap.size ≤ g) ∧ (∀ g, ov.ownBlock = some g → (Value.slice ba bn bc).ownBlock ≠ some g)) ∧ Hid (Kept (fun k => (Value.slice oa order.length oc).ownBlock = some k) w wy ∧ w'.heap.size ≤ wy.heap.size) ∧ Hid (IsI wy (.slice ba bn bc) (on ++ [id])) ∧ Hid (Topo (nodesD S) o2 ∧ foldE (belowF (nodesD S) n (on ++ [id])) (p.ps.drop k2) o2 = R2)) (fun _ i _ => pn - (intOf i).toNat)
              case atStart => exact ⟨0, _, Nat.zero_le _, rfl, HOV, HKK, HBI, HR2⟩
              case round =>
                clear HOV HKK HBI HR2 HK HO HK' HO'
                obtain ⟨k2, o2, hk2, rfl, HOV, HKK, HBI, HR2⟩ := hrel
                have hq1 := HKK.out.1.cell HQ1.out (fun e => by have := HOB.out lg e; have := HLG.out; omega)
                obtain ⟨va, vc, rfl, -, -⟩ := HOV.out.1.form
                by_cases hlt : k2 < pn
                · have hpl : k2 < p.ps.length := by have := HPN.out; omega
                  obtain ⟨g, off, rfl, hg, hc⟩ := (HPI.out.kept HKK.out.1 (fun g e e2 => by have := HOB.out g e2; have := HPB.out g e; omega)).at hpl
                  obtain ⟨x, hx⟩ : ∃ x, p.ps[k2] = x := ⟨_, rfl⟩
                  rw [hx] at hc
                  have HST := Lib.hid (foldE_at (f := belowF (nodesD S) n (on ++ [id])) hpl hx o2)
                  have HHB := Lib.hid (rhas_any wr ba bn bc (on ++ [id]) x HBI.out)
                  have b0 : (0 : Int) ≤ (k2 : Int) := by omega
                  have b1 : (k2 : Int) < (pn : Int) := by omega
                  clear hx hg
                  by_cases hxin : x ∈ on ++ [id]
                  · rw [show decide (x ∈ on ++ [id]) = true from by simpa using hxin] at HHB
                    have HE : R2 = .error 210 := by
                      have h1 := HR2.out.2
                      rw [HST.out] at h1
                      unfold belowF at h1
                      rw [if_pos hxin] at h1
                      exact h1.symm
                    subst HE
                    have HE2 : R = .error 210 := HQ.out.symm
                    clear hxin
                    subst HE2
                    go_wp2_with fail
                    refine HHB.out.mono ?_
                    rintro e w9 ⟨rfl, rfl⟩
                    go_wp2_with fail
                    go_ret2
                    exact ⟨⟨rfl, by decide⟩, HKK.out.1⟩
                  · rw [show decide (x ∈ on ++ [id]) = false from by simpa using hxin] at HHB
                    have HXN := Lib.hid hxin
                    obtain ⟨A1, A2, A3, A4, A5, A6, A7, A8, A9, A10, A11, A12⟩ := HALL.out
                    have HIH := Lib.hid (IH.out wr B (some ⟨lg, lo, none⟩) ln lc S x (.slice va o2.length vc) o2 ba bn bc (on ++ [id]) (A1.kept HKK.out.1 (fun g hg e => by have := HOB.out g e; omega)) A2 HOV.out.1 (by have := HKK.out.1.size; omega) HBI.out HOV.out.2.2 (fun g e => by have := (HBB.out g e).2; have := HKK.out.2; omega) HR2.out.1 (by
                      refine List.nodup_append.2 ⟨A9, by simp, fun a ha b hb e => ?_⟩
                      rw [List.mem_singleton.1 hb] at e
                      exact A11 (e ▸ ha)) (fun y hy => by
                      rcases List.mem_append.1 hy with hy | hy
                      · exact A10 y hy
                      · rw [List.mem_singleton.1 hy]; exact ⟨_, H2.out⟩) hxin (by simp; omega))
                    have HWENT := Lib.hid (fun o' (h' : fromR (nodesD S) n x o2 (on ++ [id]) = .ok o') => (fromR_went _ x o2 (on ++ [id]) o' HR2.out.1 hxin h').1.topo)
                    obtain ⟨r, hr⟩ : ∃ r, fromR (nodesD S) n x o2 (on ++ [id]) = r := ⟨_, rfl⟩
                    have HRE : Hid (R2 = thenE (belowF (nodesD S) n (on ++ [id])) (p.ps.drop (k2 + 1)) r) := Lib.hid (by
                      have h1 := HR2.out.2
                      rw [HST.out] at h1
                      have h2 : belowF (nodesD S) n (on ++ [id]) x o2 = r := by unfold belowF; rw [if_neg hxin]; exact hr
                      rw [h2] at h1
                      exact h1.symm)
                    rw [hr] at HIH HWENT
                    clear hxin A1 A2 A3 A4 A5 A6 A7 A8 A9 A10 A11 A12 hr
                    go_wp2_with fail
                    refine HHB.out.mono ?_
                    rintro e w9 ⟨rfl, rfl⟩
                    go_wp2_with fail
                    refine HIH.out.mono ?_
                    rintro e w9 ⟨he, hk9⟩
                    have HK9 : Hid (Kept (fun k => (Value.slice oa order.length oc).ownBlock = some k) w w9 ∧ w'.heap.size ≤ w9.heap.size) := Lib.hid ⟨HKK.out.1.trans hk9 (fun i hi e => by
                      rcases HOV.out.2.1 i e with h | h
                      · exact h
                      · omega), Nat.le_trans HKK.out.2 hk9.size⟩
                    have HB9 : Hid (IsI w9 (.slice ba bn bc) (on ++ [id])) := Lib.hid (HBI.out.kept hk9 (fun g e e2 => HOV.out.2.2 g e2 e))
                    have HS9 : Hid (wr.heap.size ≤ w9.heap.size) := Lib.hid hk9.size
                    clear hk9
                    cases r with
                    | error c9 =>
                      obtain ⟨rfl, hc0⟩ := he
                      have HE : R = .error c9 := by
                        have h1 := HQ.out
                        rw [HRE.out] at h1
                        exact h1.symm
                      have hcb : (c9 != 0) = true := by simp [hc0]
                      have HC0 := Lib.hid hc0
                      clear hc0
                      subst HE
                      go_wp2_with fail
                      go_ret2
                      exact ⟨⟨rfl, HC0.out⟩, HK9.out.1⟩
                    | ok o9 =>
                      obtain ⟨v9, rfl, ho9, hb9⟩ := he
                      have HOV9 : Hid (OwnI B w9 v9 o9 ∧ (∀ g, v9.ownBlock = some g → (Value.slice oa order.length oc).ownBlock = some g ∨ w.heap.size ≤ g) ∧ (∀ g, v9.ownBlock = some g → (Value.slice ba bn bc).ownBlock ≠ some g)) := Lib.hid ⟨ho9, fun g e => by
                        rcases hb9 g e with h | h
                        · exact HOV.out.2.1 g h
                        · have := HKK.out.1.size; exact .inr (by omega), fun g e e2 => by
                        rcases hb9 g e with h | h
                        · exact HOV.out.2.2 g h e2
                        · have := (HBB.out g e2).2; have := HKK.out.2; omega⟩
                      have HR9 : Hid (Topo (nodesD S) o9 ∧ foldE (belowF (nodesD S) n (on ++ [id])) (p.ps.drop (k2 + 1)) o9 = R2) := Lib.hid ⟨HWENT.out o9 rfl, HRE.out.symm⟩
                      clear ho9 hb9
                      go_wp2_with fail
                      go_roundw
                      case rel => exact ⟨k2 + 1, o9, by omega, by go_num, HOV9, HK9, HB9, HR9⟩
                      case measure => simp [intOf]; omega
                · obtain rfl : k2 = pn := by omega
                  have HE : R = .ok (o2 ++ [id]) := by
                    have h1 := HR2.out.2
                    rw [List.drop_of_length_le (Nat.le_of_eq HPN.out)] at h1
                    have h2 := HQ.out
                    rw [← h1] at h2
                    exact h2.symm
                  have hle := HR2.out.1.len
                  obtain ⟨v5, w5, hrun, ho5, hk5, hb5⟩ := ids_app HOV.out.1 (by have := HKK.out.1.size; have := HALL.out.2.2.2.1; omega) id (by have := HALL.out.2.1; simp [nodesD] at hle; omega)
                  have HO5 : Hid (OwnI B w5 v5 (o2 ++ [id]) ∧ ∀ g, v5.ownBlock = some g → (Value.slice oa order.length oc).ownBlock = some g ∨ w.heap.size ≤ g) := Lib.hid ⟨ho5, fun g e => by
                    rcases hb5 g e with h | h
                    · exact HOV.out.2.1 g h
                    · have := HKK.out.1.size; exact .inr (by omega)⟩
                  have HK5 : Hid (Kept (fun k => (Value.slice oa order.length oc).ownBlock = some k) w w5) := Lib.hid (HKK.out.1.trans hk5 (fun i hi e => by
                      rcases HOV.out.2.1 i e with h | h
                      · exact h
                      · omega))
                  subst HE
                  clear hle ho5 hk5 hb5
                  go_wp2_with (at_builtin; refine wpList_append_run rfl (.tmp 90) (.tmp 92) #[28, 28] rfl _ _ _ _ rfl rfl hrun ?_)
                  go_ret2
                  exact ⟨⟨_, rfl, HO5.out.1, HO5.out.2⟩, HK5.out⟩
end Go.Proofs.YtikacgiccllolaaGreat
